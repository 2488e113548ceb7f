/- The walk of draymanref07.Decode. -/
import Derived.Test.YtoojdknfommpbaaDoorSuperDecRef
import Derived.Test.YtoojdknfommpbaaDoorSuperDec
namespace Go.Proofs.YtoojdknfommpbaaDoor
open Go.RowKit
set_option maxRecDepth 10000

theorem dq_new {w w1 : World} (h : R6 w w1) (a b c : Int) (body : List UInt8) :
    DQ w w1.heap.size (some body) 0 0 0 0 (.slice none 0 0) (.slice none 0 0) [] [] (((w1.alloc (.cells #[.int .i64 a, .int .i64 b, .int .i64 c] 23)).alloc (.cells #[.string (mkS body), .bool false] 102)).alloc (.cells #[.int .i64 0, .int .i64 0, .int .i64 0, .int .i64 0, .slice none 0 0, .slice none 0 0] 41)) := by
  obtain ⟨hr, hb⟩ := h
  have hlt : w.heap.size < w1.heap.size := (Array.getElem?_eq_some_iff.1 hr).1
  generalize hA : w1.alloc (.cells #[.int .i64 a, .int .i64 b, .int .i64 c] 23) = A
  generalize hB : A.alloc (.cells #[.string (mkS body), .bool false] 102) = B
  have sA : A.heap.size = w1.heap.size + 1 := by rw [← hA]; simp
  have sB : B.heap.size = w1.heap.size + 1 + 1 := by rw [← hB]; simp [sA]
  have bA : Below w1.heap.size w1 A := by rw [← hA]; exact below_new _ _
  have bB : Below A.heap.size A B := by rw [← hB]; exact below_new _ _
  have bD := below_new B (.cells #[.int .i64 0, .int .i64 0, .int .i64 0, .int .i64 0, .slice none 0 0, .slice none 0 0] 41)
  have zB : B.heap[A.heap.size]? = some (.cells #[.string (mkS body), .bool false] 102 (0, 0)) := by rw [← hB]; show (A.heap.push _)[A.heap.size]? = _; simp
  rw [sA] at zB
  refine ⟨blk_keep (blk_keep (blk_keep hr bA) bB) bD, blk_keep zB bD, ?_, Own.nil _ _ _ _, Own.nil _ _ _ _, hlt, below_next (below_next (below_next hb bA) bB) bD⟩
  rw [← sB]
  show (B.heap.push _)[B.heap.size]? = _; simp

set_option maxHeartbeats 20000000 in
theorem dec_any (l : List UInt8) (w : World) : Calls Tryd.prog 30 #[.string (mkS l)] w (DecPost w l) := by
  have HR0 := Lib.hid (R6.new w)
  by_cases ho : OpenOk l
  case neg =>
    have HD := Lib.hid (dec_closed ho)
    have HO : Hid (∀ W, R6 w W → Calls Tryd.prog 21 #[.string (mkS l)] W fun e w' => e = .returned (.tuple #[.agg #[.int .i64 0, .int .i64 0, .int .i64 0], .string ⟨#[]⟩, .int .i64 12]) ∧ R6 w w') := Lib.hid fun W h =>
      (open_ref l W).mono fun e w' ⟨he, hb⟩ => ⟨by rw [he]; unfold openX openS openE; rw [if_neg ho, if_neg ho, if_neg ho]; rfl, h.below hb⟩
    have HFz : Hid (∀ W, R6 w W → ∀ o, (W.alloc o).frozen? ⟨w.heap.size, 0, none⟩ = false ∧ (W.alloc o).frozen? ⟨w.heap.size, 1, none⟩ = false ∧ (W.alloc o).frozen? ⟨w.heap.size, 2, none⟩ = false ∧ (W.alloc o).frozen? ⟨w.heap.size, 3, none⟩ = false ∧ (W.alloc o).frozen? ⟨w.heap.size, 4, none⟩ = false ∧ (W.alloc o).frozen? ⟨w.heap.size, 5, none⟩ = false) := Lib.hid fun W h o => free6 (h.below (below_new W o)).1
    have HCz : Hid (∀ W, R6 w W → ∀ o, (W.alloc o).cell? ⟨w.heap.size, 0, none⟩ = some (.int .i64 0) ∧ (W.alloc o).cell? ⟨w.heap.size, 1, none⟩ = some (.int .i64 0) ∧ (W.alloc o).cell? ⟨w.heap.size, 2, none⟩ = some (.int .i64 0) ∧ (W.alloc o).cell? ⟨w.heap.size, 3, none⟩ = some (.int .i64 0) ∧ (W.alloc o).cell? ⟨w.heap.size, 4, none⟩ = some (.slice none 0 0) ∧ (W.alloc o).cell? ⟨w.heap.size, 5, none⟩ = some (.slice none 0 0)) := Lib.hid fun W h o => cells6 (h.below (below_new W o)).1
    clear ho
    generalize mkS l = S at *
    go_enter Tryd.func30, Tryd.ntmps30
    go_wp2_with (go_at_call 21; (with_reducible refine (HO.out _ HR0.out).mono ?_); rintro e w1 ⟨rfl, hr1⟩; have e0 := fun o => (HFz.out _ hr1 o).1; have e1 := fun o => (HFz.out _ hr1 o).2.1; have e2 := fun o => (HFz.out _ hr1 o).2.2.1; have e3 := fun o => (HFz.out _ hr1 o).2.2.2.1; have e4 := fun o => (HFz.out _ hr1 o).2.2.2.2.1; have e5 := fun o => (HFz.out _ hr1 o).2.2.2.2.2; have d0 := fun o => (HCz.out _ hr1 o).1; have d1 := fun o => (HCz.out _ hr1 o).2.1; have d2 := fun o => (HCz.out _ hr1 o).2.2.1; have d3 := fun o => (HCz.out _ hr1 o).2.2.2.1; have d4 := fun o => (HCz.out _ hr1 o).2.2.2.2.1; have d5 := fun o => (HCz.out _ hr1 o).2.2.2.2.2; have HR1 := Lib.hid hr1; clear hr1)
    generalize hW9 : ((((((World.setCell _ _ _).setCell _ _).setCell _ _).setCell _ _).setCell _ _).setCell _ _) = W9
    have z1 := HR1.out.below (below_new w1 (.cells #[.int .i64 0, .int .i64 0, .int .i64 0] 23))
    have q9 := set6_blk z1.1 (.int .i64 0) (.int .i64 0) (.int .i64 0) (.int .i64 0) (.slice none 0 0) (.slice none 0 0)
    have b9 := set6_bel z1.2 (Nat.le_refl w.heap.size) (.int .i64 0) (.int .i64 0) (.int .i64 0) (.int .i64 0) (.slice none 0 0) (.slice none 0 0)
    rw [hW9] at q9 b9
    obtain ⟨g0, g1, g2, g3, g4, g5⟩ := cells6 q9
    (try simp only [Exit.inBlock, Exit.then])
    refine bodyPost_ret (by simp [results, Tryd.results30, go_sem, g0, g1, g2, g3, g4, g5]; try rfl) rfl ?_
    exact decPost_bad HD.out rfl b9
  have HO : Hid (∀ W, R6 w W → Calls Tryd.prog 21 #[.string (mkS l)] W fun e w' => e = .returned (.tuple #[(stOf l).val, .string (mkS (bodyOf l)), .int .i64 0]) ∧ R6 w w') := Lib.hid fun W h =>
    (open_ref l W).mono fun e w' ⟨he, hb⟩ => ⟨by rw [he]; unfold openX openS openE; rw [if_pos ho, if_pos ho, if_pos ho], h.below hb⟩
  have hbl : (bodyOf l).length ≤ 104 := by rw [bodyOf_length ho.1 ho.2.1]; exact ho.2.1
  obtain ⟨body, hbody⟩ : ∃ body, bodyOf l = body := ⟨_, rfl⟩
  obtain ⟨st, hst⟩ : ∃ st, stOf l = st := ⟨_, rfl⟩
  have HOk : Hid (decOk l ↔ ((readS body).2 = some [] ∧ (readS body).1.fit ∧ supB (readS body).1 = l)) := Lib.hid (by rw [dec_ref ho, hbody])
  have HXl : Hid (bodyOf l = body) := Lib.hid hbody
  rw [hbody] at HO hbl
  rw [hst] at HO
  clear hbody hst ho
  obtain ⟨p1, hp1⟩ : ∃ p, rdInt (some body) 1099511627776 = p := ⟨_, rfl⟩
  obtain ⟨p2, hp2⟩ : ∃ p, rdInt p1.2 1099511627776 = p := ⟨_, rfl⟩
  obtain ⟨p3, hp3⟩ : ∃ p, rdInt p2.2 1099511627776 = p := ⟨_, rfl⟩
  obtain ⟨p4, hp4⟩ : ∃ p, rdInt p3.2 1099511627776 = p := ⟨_, rfl⟩
  obtain ⟨p5, hp5⟩ : ∃ p, rdText p4.2 63 = p := ⟨_, rfl⟩
  obtain ⟨p6, hp6⟩ : ∃ p, rdText p5.2 63 = p := ⟨_, rfl⟩
  have HRd : Hid (readS body = (⟨p1.1, p2.1, p3.1, p4.1, nums p5.1, nums p6.1⟩, p6.2)) := Lib.hid (by
    unfold readS; simp only; rw [hp1, hp2, hp3, hp4, hp5, hp6])
  have l0 : ∀ m, some body = some m → m.length ≤ 1000 := fun m h => by cases h; omega
  have l1 := rdInt_len (high := 1099511627776) l0
  rw [hp1] at l1
  have l2 := rdInt_len (high := 1099511627776) l1
  rw [hp2] at l2
  have l3 := rdInt_len (high := 1099511627776) l2
  rw [hp3] at l3
  have l4 := rdInt_len (high := 1099511627776) l3
  rw [hp4] at l4
  have l5 := rdText_len (m := 63) l4
  rw [hp5] at l5
  have l6 := rdText_le p4.2 63
  rw [hp5] at l6
  have l7 := rdText_le p5.2 63
  rw [hp6] at l7
  have H5 : Hid (p5.1.length ≤ 63) := Lib.hid l6
  have H6 : Hid (p6.1.length ≤ 63) := Lib.hid l7
  -- one step of the reader
  have IQ : ∀ (r : Option (List UInt8)) (p : Nat × Option (List UInt8)), rdInt r 1099511627776 = p → (∀ m, r = some m → m.length ≤ 1000) → Hid (∀ N y0 y1 y2 y3 W, DQ w N r y0 y1 y2 y3 (.slice none 0 0) (.slice none 0 0) [] [] W → Calls Tryd.prog 77 #[.pointer (some ⟨N + 1, 0, none⟩), .int .i64 0, .int .i64 1099511627776] W fun e w' => e = .returned (.int .i64 (p.1 : Int)) ∧ DQ w N p.2 y0 y1 y2 y3 (.slice none 0 0) (.slice none 0 0) [] [] w') := fun r p hp hr => Lib.hid fun N y0 y1 y2 y3 W h => by
    subst hp
    exact (qInt_any (N + 1) r 1099511627776 W h.rd hr (by omega)).mono fun e w' ⟨he, h1, h2⟩ => ⟨he, h.read h1 h2⟩
  have TQ : ∀ (r : Option (List UInt8)) (p : List UInt8 × Option (List UInt8)), rdText r 63 = p → (∀ m, r = some m → m.length ≤ 1000) → Hid (∀ N y0 y1 y2 y3 cv chk W, DQ w N r y0 y1 y2 y3 cv (.slice none 0 0) chk [] W → Calls Tryd.prog 79 #[.pointer (some ⟨N + 1, 0, none⟩), .int .i64 63] W fun e w' => e = .returned (.string (mkS p.1)) ∧ DQ w N p.2 y0 y1 y2 y3 cv (.slice none 0 0) chk [] w') := fun r p hp hr => Lib.hid fun N y0 y1 y2 y3 cv chk W h => by
    subst hp
    exact (qText_any (N + 1) r 63 W h.rd hr (by omega)).mono fun e w' ⟨he, h1, h2⟩ => ⟨he, h.read h1 h2⟩
  have NQ : ∀ (m : List UInt8) (n : Nat), (nums m).length = n → m.length ≤ 63 → Hid (∀ N r y0 y1 y2 y3 cv chk W, DQ w N r y0 y1 y2 y3 cv (.slice none 0 0) chk [] W → Calls Tryd.prog 78 #[.string (mkS m)] W fun e w' => ∃ A c, e = .returned (.slice A n c) ∧ Own (Value.int .i64) 3 (N + 1 + 1 + 1) w' (.slice A n c) (nums m) ∧ DQ w N r y0 y1 y2 y3 cv (.slice none 0 0) chk [] w') := fun m n hn hm => Lib.hid fun N r y0 y1 y2 y3 cv chk W h => by
    subst hn
    exact (numbers_any m W (by omega)).mono fun e w' ⟨v, he, h1, h2⟩ => by
      obtain ⟨A, c, rfl⟩ := h1.slice
      exact ⟨A, c, he, h1.weaken h.sz, h.below h2⟩
  have I1 := IQ _ _ hp1 l0
  have I2 := IQ _ _ hp2 l1
  have I3 := IQ _ _ hp3 l2
  have I4 := IQ _ _ hp4 l3
  have T5 := TQ _ _ hp5 l4
  have T6 := TQ _ _ hp6 l5
  obtain ⟨n, hn⟩ : ∃ n, (nums p5.1).length = n := ⟨_, rfl⟩
  obtain ⟨m, hm⟩ : ∃ m, (nums p6.1).length = m := ⟨_, rfl⟩
  have N5 := NQ _ _ hn l6
  have N6 := NQ _ _ hm l7
  have HN := Lib.hid hn
  have HM := Lib.hid hm
  have HNl : Hid ((nums p5.1).length ≤ 63 ∧ (nums p6.1).length ≤ 63) := Lib.hid ⟨by unfold nums; rw [List.length_map]; exact l6, by unfold nums; rw [List.length_map]; exact l7⟩
  obtain ⟨chk, hchk⟩ : ∃ chk, nums p5.1 = chk := ⟨_, rfl⟩
  obtain ⟨lg, hlg⟩ : ∃ lg, nums p6.1 = lg := ⟨_, rfl⟩
  rw [hchk] at N5 HN HNl HRd
  rw [hlg] at N6 HM HNl HRd
  clear IQ TQ NQ l0 l1 l2 l3 l4 l5 l6 l7 hp1 hp2 hp3 hp4 hp5 hp6 hbl hn hm hchk hlg H5 H6
  obtain ⟨sa, sb, sc⟩ := st
  unfold Stp.val at HO
  simp only at HO
  generalize mkS p5.1 = S5 at *
  generalize mkS p6.1 = S6 at *
  obtain ⟨S, hS⟩ : ∃ S, mkS l = S := ⟨_, rfl⟩
  have HS := Lib.hid hS
  rw [hS] at HO ⊢
  clear hS
  go_enter Tryd.func30, Tryd.ntmps30
  go_upto_region 6 with (go_at_call 21; (with_reducible refine (HO.out _ HR0.out).mono ?_); rintro e w1 ⟨rfl, hr1⟩; have HR1 := Lib.hid hr1; clear hr1)
  have hds := dq_new HR1.out sa sb sc body
  generalize hW0 : (((w1.alloc _).alloc _).alloc _) = W0
  rw [hW0] at hds
  generalize w1.heap.size = N at *
  have X0 := Lib.hid hds
  clear hW0 hds HR1 HO HR0
  go_upto_region 12 with (first
    | (go_at_call 77; have hq := X3; (with_reducible refine (I4.out _ _ _ _ _ _ (hq.out.s2 _)).mono ?_); rintro e w4 ⟨rfl, h4⟩; have X4 := Lib.hid h4; have f4 := free6 h4.out; obtain ⟨_, _, _, e3, _, _⟩ := f4; have c4 := cells6 h4.out; obtain ⟨_, _, _, d3, _, _⟩ := c4; clear h4 hq)
    | (go_at_call 77; have hq := X2; (with_reducible refine (I3.out _ _ _ _ _ _ (hq.out.s1 _)).mono ?_); rintro e w3 ⟨rfl, h3⟩; have X3 := Lib.hid h3; have f4 := free6 h3.out; obtain ⟨_, _, e2, _, _, _⟩ := f4; have c4 := cells6 h3.out; obtain ⟨_, _, d2, _, _, _⟩ := c4; clear h3 hq)
    | (go_at_call 77; have hq := X1; (with_reducible refine (I2.out _ _ _ _ _ _ (hq.out.s0 _)).mono ?_); rintro e w2 ⟨rfl, h2⟩; have X2 := Lib.hid h2; have f4 := free6 h2.out; obtain ⟨_, e1, _, _, _, _⟩ := f4; have c4 := cells6 h2.out; obtain ⟨_, d1, _, _, _, _⟩ := c4; clear h2 hq)
    | (go_at_call 77; (with_reducible refine (I1.out _ _ _ _ _ _ X0.out).mono ?_); rintro e w5 ⟨rfl, h1⟩; have X1 := Lib.hid h1; have f4 := free6 h1.out; obtain ⟨e0, _, _, _, _, _⟩ := f4; have c4 := cells6 h1.out; obtain ⟨d0, _, _, _, _, _⟩ := c4; clear h1)
    | (go_at_call 79; have hq := X6; (with_reducible refine (T6.out _ _ _ _ _ _ _ _ (hq.out.s4 O6.out)).mono ?_); rintro e w8 ⟨rfl, h8⟩; have X8 := Lib.hid h8; clear h8 hq)
    | (go_at_call 79; (with_reducible refine (T5.out _ _ _ _ _ _ _ _ (X4.out.s3 _)).mono ?_); rintro e w6 ⟨rfl, h6⟩; have X5 := Lib.hid h6; clear h6)
    | (go_at_call 78; have hq := X8; (with_reducible refine (N6.out _ _ _ _ _ _ _ _ _ hq.out).mono ?_); rintro e w9 ⟨B, d, rfl, o9, h9⟩; have X9 := Lib.hid h9; have O9 := Lib.hid o9; have f4 := free6 h9.out; obtain ⟨_, _, _, _, _, e5⟩ := f4; have c4 := cells6 h9.out; obtain ⟨_, _, _, _, _, d5⟩ := c4; clear h9 o9 hq)
    | (go_at_call 78; (with_reducible refine (N5.out _ _ _ _ _ _ _ _ _ X5.out).mono ?_); rintro e w7 ⟨A, c, rfl, o7, h7⟩; have X6 := Lib.hid h7; have O6 := Lib.hid o7; have f4 := free6 h7.out; obtain ⟨_, _, _, _, e4, _⟩ := f4; have c4 := cells6 h7.out; obtain ⟨_, _, _, _, d4, _⟩ := c4; clear h7 o7))
  have hX := X9.out.s5 O9.out
  generalize hW5 : World.setCell w9 _ _ = W5 at hX ⊢
  have HX := Lib.hid hX
  have q1 := cells6 hX.out
  obtain ⟨k0, k1, k2, k3, k4, k5⟩ := q1
  have HSup : Hid (∃ X : Sup, X = ⟨p1.1, p2.1, p3.1, p4.1, chk, lg⟩) := Lib.hid ⟨_, rfl⟩
  have EN : Hid (∀ W, DQ w N p6.2 p1.1 p2.1 p3.1 p4.1 (.slice A n c) (.slice B m d) chk lg W → Calls Tryd.prog 28 #[.agg #[.int .i64 (p1.1 : Int), .int .i64 (p2.1 : Int), .int .i64 (p3.1 : Int), .int .i64 (p4.1 : Int), .slice A n c, .slice B m d]] W fun e w' => e = .returned (.tuple #[.string (mkS (encS ⟨p1.1, p2.1, p3.1, p4.1, chk, lg⟩)), .int .i64 (encE ⟨p1.1, p2.1, p3.1, p4.1, chk, lg⟩)]) ∧ DQ w N p6.2 p1.1 p2.1 p3.1 p4.1 (.slice A n c) (.slice B m d) chk lg w') := Lib.hid fun W h => by
    have e1 := HN.out
    have e2 := HM.out
    have e3 := HNl.out
    subst e1
    subst e2
    exact (enc_ref ⟨p1.1, p2.1, p3.1, p4.1, chk, lg⟩ A B c d W h.cown.sl h.lown.sl (show chk.length ≤ 140737488351232 by omega) (show lg.length ≤ 140737488351232 by omega)).mono fun e w' ⟨he, hb⟩ => ⟨he, h.below hb⟩
  have RD : Hid (∀ W, DQ w N p6.2 p1.1 p2.1 p3.1 p4.1 (.slice A n c) (.slice B m d) chk lg W → Calls Tryd.prog 80 #[.pointer (some ⟨N + 1, 0, none⟩)] W fun e w' => e = .returned (.bool (decide (p6.2 = some []))) ∧ W = w') := Lib.hid fun W h => qDone_any _ _ W h.rd
  have HOk2 : Hid (decOk l ↔ (p6.2 = some [] ∧ Sup.fit ⟨p1.1, p2.1, p3.1, p4.1, chk, lg⟩ ∧ supB ⟨p1.1, p2.1, p3.1, p4.1, chk, lg⟩ = l)) := Lib.hid (by rw [HOk.out, HRd.out])
  have HXd : Hid (decOk l → decX l = ⟨p1.1, p2.1, p3.1, p4.1, chk, lg⟩ ∧ decE l = 0) := Lib.hid fun h => by
    unfold decX decE; rw [if_pos h, if_pos h, HXl.out, HRd.out]; exact ⟨rfl, rfl⟩
  clear hX hW5 X0 X1 X2 X3 X4 X5 X6 X8 X9 O6 O9 I1 I2 I3 I4 T5 T6 N5 N6 HOk HRd HXl HSup
  clear e0 e1 e2 e3 e4 e5 d0 d1 d2 d3 d4 d5
  obtain ⟨bd, hbd⟩ : ∃ b, decide (p6.2 = some []) = b := ⟨_, rfl⟩
  rw [hbd] at RD
  have HBd := Lib.hid hbd
  clear hbd
  by_cases hf : Sup.fit ⟨p1.1, p2.1, p3.1, p4.1, chk, lg⟩
  case neg =>
    have HNo : Hid (¬ decOk l) := Lib.hid fun h => hf (HOk2.out.1 h).2.1
    have hE : encE ⟨p1.1, p2.1, p3.1, p4.1, chk, lg⟩ = 1 := by unfold encE; rw [if_neg hf]
    rw [hE] at EN
    clear hE hf
    generalize mkS (encS ⟨p1.1, p2.1, p3.1, p4.1, chk, lg⟩) = TS at *
    cases bd
    · go_wp2_with (first | (go_at_call 28; (with_reducible refine (EN.out _ HX.out).mono ?_); rintro e w10 ⟨rfl, h10⟩; have H10 := Lib.hid h10; have q6 := cells6 h10.out; obtain ⟨d0', d1', d2', d3', d4', d5'⟩ := q6; have q8 := free6 h10.res; obtain ⟨e0, e1, e2, e3, e4, e5⟩ := q8; have q9 := cells6 h10.res; obtain ⟨r0, r1, r2, r3, r4, r5⟩ := q9; clear h10) | (go_at_call 80; (with_reducible refine (RD.out _ H10.out).mono ?_); rintro e w11 ⟨rfl, rfl⟩))
      generalize hW9 : ((((((World.setCell _ _ _).setCell _ _).setCell _ _).setCell _ _).setCell _ _).setCell _ _) = W9
      have q9 := set6_blk H10.out.res (.int .i64 0) (.int .i64 0) (.int .i64 0) (.int .i64 0) (.slice none 0 0) (.slice none 0 0)
      have b9 := set6_bel H10.out.bel (Nat.le_refl w.heap.size) (.int .i64 0) (.int .i64 0) (.int .i64 0) (.int .i64 0) (.slice none 0 0) (.slice none 0 0)
      rw [hW9] at q9 b9
      obtain ⟨g0, g1, g2, g3, g4, g5⟩ := cells6 q9
      (try simp only [Exit.inBlock, Exit.then])
      refine bodyPost_ret (by simp [results, Tryd.results30, go_sem, g0, g1, g2, g3, g4, g5]; try rfl) rfl ?_
      exact decPost_bad HNo.out rfl b9
    · go_wp2_with (first | (go_at_call 28; (with_reducible refine (EN.out _ HX.out).mono ?_); rintro e w10 ⟨rfl, h10⟩; have H10 := Lib.hid h10; have q6 := cells6 h10.out; obtain ⟨d0', d1', d2', d3', d4', d5'⟩ := q6; have q8 := free6 h10.res; obtain ⟨e0, e1, e2, e3, e4, e5⟩ := q8; have q9 := cells6 h10.res; obtain ⟨r0, r1, r2, r3, r4, r5⟩ := q9; clear h10) | (go_at_call 80; (with_reducible refine (RD.out _ H10.out).mono ?_); rintro e w11 ⟨rfl, rfl⟩))
      generalize hW9 : ((((((World.setCell _ _ _).setCell _ _).setCell _ _).setCell _ _).setCell _ _).setCell _ _) = W9
      have q9 := set6_blk H10.out.res (.int .i64 0) (.int .i64 0) (.int .i64 0) (.int .i64 0) (.slice none 0 0) (.slice none 0 0)
      have b9 := set6_bel H10.out.bel (Nat.le_refl w.heap.size) (.int .i64 0) (.int .i64 0) (.int .i64 0) (.int .i64 0) (.slice none 0 0) (.slice none 0 0)
      rw [hW9] at q9 b9
      obtain ⟨g0, g1, g2, g3, g4, g5⟩ := cells6 q9
      (try simp only [Exit.inBlock, Exit.then])
      refine bodyPost_ret (by simp [results, Tryd.results30, go_sem, g0, g1, g2, g3, g4, g5]; try rfl) rfl ?_
      exact decPost_bad HNo.out rfl b9
  have hE : encE ⟨p1.1, p2.1, p3.1, p4.1, chk, lg⟩ = 0 := by unfold encE; rw [if_pos hf]
  have hS : encS ⟨p1.1, p2.1, p3.1, p4.1, chk, lg⟩ = supB ⟨p1.1, p2.1, p3.1, p4.1, chk, lg⟩ := by unfold encS; rw [if_pos hf]
  rw [hE, hS] at EN
  obtain ⟨TS, hTS⟩ : ∃ TS, mkS (supB ⟨p1.1, p2.1, p3.1, p4.1, chk, lg⟩) = TS := ⟨_, rfl⟩
  have HEq : Hid (TS = S ↔ supB ⟨p1.1, p2.1, p3.1, p4.1, chk, lg⟩ = l) := Lib.hid (by
    rw [← hTS, ← HS.out]
    constructor
    · intro h; have := congrArg bl h; rw [bl_mkS, bl_mkS] at this; exact this
    · intro h; rw [h])
  rw [hTS] at EN
  have HFt := Lib.hid hf
  clear hE hS hTS hf
  cases bd
  · have HNo : Hid (¬ decOk l) := Lib.hid fun h => by have := (HOk2.out.1 h).1; exact absurd this (of_decide_eq_false HBd.out)
    go_wp2_with (first | (go_at_call 28; (with_reducible refine (EN.out _ HX.out).mono ?_); rintro e w10 ⟨rfl, h10⟩; have H10 := Lib.hid h10; have q6 := cells6 h10.out; obtain ⟨d0', d1', d2', d3', d4', d5'⟩ := q6; have q8 := free6 h10.res; obtain ⟨e0, e1, e2, e3, e4, e5⟩ := q8; have q9 := cells6 h10.res; obtain ⟨r0, r1, r2, r3, r4, r5⟩ := q9; clear h10) | (go_at_call 80; (with_reducible refine (RD.out _ H10.out).mono ?_); rintro e w11 ⟨rfl, rfl⟩))
    generalize hW9 : ((((((World.setCell _ _ _).setCell _ _).setCell _ _).setCell _ _).setCell _ _).setCell _ _) = W9
    have q9 := set6_blk H10.out.res (.int .i64 0) (.int .i64 0) (.int .i64 0) (.int .i64 0) (.slice none 0 0) (.slice none 0 0)
    have b9 := set6_bel H10.out.bel (Nat.le_refl w.heap.size) (.int .i64 0) (.int .i64 0) (.int .i64 0) (.int .i64 0) (.slice none 0 0) (.slice none 0 0)
    rw [hW9] at q9 b9
    obtain ⟨g0, g1, g2, g3, g4, g5⟩ := cells6 q9
    (try simp only [Exit.inBlock, Exit.then])
    refine bodyPost_ret (by simp [results, Tryd.results30, go_sem, g0, g1, g2, g3, g4, g5]; try rfl) rfl ?_
    exact decPost_bad HNo.out rfl b9
  · by_cases he : TS = S
    · have hs := str_eq he
      have HY : Hid (decOk l) := Lib.hid (HOk2.out.2 ⟨of_decide_eq_true HBd.out, HFt.out, HEq.out.1 he⟩)
      clear he
      go_wp2_with (first | (go_at_call 28; (with_reducible refine (EN.out _ HX.out).mono ?_); rintro e w10 ⟨rfl, h10⟩; have H10 := Lib.hid h10; have q6 := cells6 h10.out; obtain ⟨d0', d1', d2', d3', d4', d5'⟩ := q6; have q8 := free6 h10.res; obtain ⟨e0, e1, e2, e3, e4, e5⟩ := q8; have q9 := cells6 h10.res; obtain ⟨r0, r1, r2, r3, r4, r5⟩ := q9; clear h10) | (go_at_call 80; (with_reducible refine (RD.out _ H10.out).mono ?_); rintro e w11 ⟨rfl, rfl⟩))
      generalize hW9 : ((((((World.setCell _ _ _).setCell _ _).setCell _ _).setCell _ _).setCell _ _).setCell _ _) = W9
      have q9 := set6_blk H10.out.res (.int .i64 (p1.1 : Int)) (.int .i64 (p2.1 : Int)) (.int .i64 (p3.1 : Int)) (.int .i64 (p4.1 : Int)) (.slice A n c) (.slice B m d)
      have b9 := set6_bel H10.out.bel (Nat.le_refl w.heap.size) (.int .i64 (p1.1 : Int)) (.int .i64 (p2.1 : Int)) (.int .i64 (p3.1 : Int)) (.int .i64 (p4.1 : Int)) (.slice A n c) (.slice B m d)
      have fr : ∀ k, k ≠ w.heap.size → W9.heap[k]? = w10.heap[k]? := fun k hk => by
        rw [← hW9, far_set hk, far_set hk, far_set hk, far_set hk, far_set hk, far_set hk]
      have sl9 := H10.out.fin fr
      rw [hW9] at q9 b9
      obtain ⟨g0, g1, g2, g3, g4, g5⟩ := cells6 q9
      (try simp only [Exit.inBlock, Exit.then])
      refine bodyPost_ret (by simp [results, Tryd.results30, go_sem, g0, g1, g2, g3, g4, g5]; try rfl) rfl ?_
      have e1 := HN.out
      have e2 := HM.out
      subst e1
      subst e2
      obtain ⟨hx1, hx2⟩ := HXd.out HY.out
      exact ⟨_, by rw [hx2], by rw [hx1]; exact ⟨A, c, B, d, rfl, sl9.1, sl9.2⟩, b9⟩
    · have hs := str_ne he
      have HNo : Hid (¬ decOk l) := Lib.hid fun h => he (HEq.out.2 (HOk2.out.1 h).2.2)
      clear he
      go_wp2_with (first | (go_at_call 28; (with_reducible refine (EN.out _ HX.out).mono ?_); rintro e w10 ⟨rfl, h10⟩; have H10 := Lib.hid h10; have q6 := cells6 h10.out; obtain ⟨d0', d1', d2', d3', d4', d5'⟩ := q6; have q8 := free6 h10.res; obtain ⟨e0, e1, e2, e3, e4, e5⟩ := q8; have q9 := cells6 h10.res; obtain ⟨r0, r1, r2, r3, r4, r5⟩ := q9; clear h10) | (go_at_call 80; (with_reducible refine (RD.out _ H10.out).mono ?_); rintro e w11 ⟨rfl, rfl⟩))
      generalize hW9 : ((((((World.setCell _ _ _).setCell _ _).setCell _ _).setCell _ _).setCell _ _).setCell _ _) = W9
      have q9 := set6_blk H10.out.res (.int .i64 0) (.int .i64 0) (.int .i64 0) (.int .i64 0) (.slice none 0 0) (.slice none 0 0)
      have b9 := set6_bel H10.out.bel (Nat.le_refl w.heap.size) (.int .i64 0) (.int .i64 0) (.int .i64 0) (.int .i64 0) (.slice none 0 0) (.slice none 0 0)
      rw [hW9] at q9 b9
      obtain ⟨g0, g1, g2, g3, g4, g5⟩ := cells6 q9
      (try simp only [Exit.inBlock, Exit.then])
      refine bodyPost_ret (by simp [results, Tryd.results30, go_sem, g0, g1, g2, g3, g4, g5]; try rfl) rfl ?_
      exact decPost_bad HNo.out rfl b9
end Go.Proofs.YtoojdknfommpbaaDoor
