/- The walk of super.Decode. -/
import Derived.Test.YtoojdknfommpbaaDoorSuperDecPure
import Derived.Deep.CutRange
namespace Go.Proofs.YtoojdknfommpbaaDoor
open Go.RowKit
set_option maxRecDepth 10000

theorem set6_blk {W : World} {b : Nat} {y0 y1 y2 y3 y4 y5 : Value} {T : TypeId} (h : W.heap[b]? = some (.cells #[y0, y1, y2, y3, y4, y5] T (0, 0))) (v0 v1 v2 v3 v4 v5 : Value) :
    ((((((W.setCell ⟨b, 0, none⟩ v0).setCell ⟨b, 1, none⟩ v1).setCell ⟨b, 2, none⟩ v2).setCell ⟨b, 3, none⟩ v3).setCell ⟨b, 4, none⟩ v4).setCell ⟨b, 5, none⟩ v5).heap[b]? = some (.cells #[v0, v1, v2, v3, v4, v5] T (0, 0)) := by
  have h1 := Lib.heap_setCell_same (i := 0) h v0
  have h2 := Lib.heap_setCell_same (i := 1) h1 v1
  have h3 := Lib.heap_setCell_same (i := 2) h2 v2
  have h4 := Lib.heap_setCell_same (i := 3) h3 v3
  have h5 := Lib.heap_setCell_same (i := 4) h4 v4
  have h6 := Lib.heap_setCell_same (i := 5) h5 v5
  rw [h6]; rfl
theorem set6_bel {B : Nat} {w W : World} {b : Nat} (h : Below B w W) (hb : B ≤ b) (v0 v1 v2 v3 v4 v5 : Value) :
    Below B w ((((((W.setCell ⟨b, 0, none⟩ v0).setCell ⟨b, 1, none⟩ v1).setCell ⟨b, 2, none⟩ v2).setCell ⟨b, 3, none⟩ v3).setCell ⟨b, 4, none⟩ v4).setCell ⟨b, 5, none⟩ v5) :=
  (((((h.setCell hb _).setCell hb _).setCell hb _).setCell hb _).setCell hb _).setCell hb _
/-- The result's cells. -/
def R6 (w W : World) : Prop := W.heap[w.heap.size]? = some (.cells #[.int .i64 0, .int .i64 0, .int .i64 0, .int .i64 0, .slice none 0 0, .slice none 0 0] 41 (0, 0)) ∧ Below w.heap.size w W
theorem R6.new (w : World) : R6 w (w.alloc (.cells #[.int .i64 0, .int .i64 0, .int .i64 0, .int .i64 0, .slice none 0 0, .slice none 0 0] 41)) := ⟨by show (w.heap.push _)[w.heap.size]? = _; simp, below_new _ _⟩
theorem R6.below {w W W' : World} (h : R6 w W) (hb : Below W.heap.size W W') : R6 w W' := ⟨blk_keep h.1 hb, below_next h.2 hb⟩
theorem ds_new {w w1 : World} (h : R6 w w1) (a b c : Int) (body : List UInt8) :
    DS w w1.heap.size ⟨a, b, c⟩ (some body) 0 0 0 0 (.slice none 0 0) (.slice none 0 0) [] [] ((((w1.alloc (.cells #[.int .i64 a, .int .i64 b, .int .i64 c] 23)).alloc (.cells #[.string (mkS body), .bool true] 138)).alloc (.cells #[.pointer (some ⟨w1.heap.size + 1, 0, none⟩)] 98)).alloc (.cells #[.int .i64 0, .int .i64 0, .int .i64 0, .int .i64 0, .slice none 0 0, .slice none 0 0] 41)) := by
  obtain ⟨hr, hb⟩ := h
  have hlt : w.heap.size < w1.heap.size := (Array.getElem?_eq_some_iff.1 hr).1
  generalize hA : w1.alloc (.cells #[.int .i64 a, .int .i64 b, .int .i64 c] 23) = A
  generalize hB : A.alloc (.cells #[.string (mkS body), .bool true] 138) = B
  generalize hC : B.alloc (.cells #[.pointer (some ⟨w1.heap.size + 1, 0, none⟩)] 98) = C
  have sA : A.heap.size = w1.heap.size + 1 := by rw [← hA]; simp
  have sB : B.heap.size = w1.heap.size + 1 + 1 := by rw [← hB]; simp [sA]
  have sC : C.heap.size = w1.heap.size + 1 + 1 + 1 := by rw [← hC]; simp [sB]
  have bA : Below w1.heap.size w1 A := by rw [← hA]; exact below_new _ _
  have bB : Below A.heap.size A B := by rw [← hB]; exact below_new _ _
  have bC : Below B.heap.size B C := by rw [← hC]; exact below_new _ _
  have bD := below_new C (.cells #[.int .i64 0, .int .i64 0, .int .i64 0, .int .i64 0, .slice none 0 0, .slice none 0 0] 41)
  have zA : A.heap[w1.heap.size]? = some (.cells #[.int .i64 a, .int .i64 b, .int .i64 c] 23 (0, 0)) := by rw [← hA]; show (w1.heap.push _)[w1.heap.size]? = _; simp
  have zB : B.heap[A.heap.size]? = some (.cells #[.string (mkS body), .bool true] 138 (0, 0)) := by rw [← hB]; show (A.heap.push _)[A.heap.size]? = _; simp
  have zC : C.heap[B.heap.size]? = some (.cells #[.pointer (some ⟨w1.heap.size + 1, 0, none⟩)] 98 (0, 0)) := by rw [← hC]; show (B.heap.push _)[B.heap.size]? = _; simp
  rw [sA] at zB
  rw [sB] at zC
  refine ⟨blk_keep (blk_keep (blk_keep (blk_keep hr bA) bB) bC) bD, blk_keep (blk_keep (blk_keep zA bB) bC) bD, blk_keep (blk_keep zB bC) bD, blk_keep zC bD, ?_, Own.nil _ _ _ _, Own.nil _ _ _ _, hlt, below_next (below_next (below_next (below_next hb bA) bB) bC) bD⟩
  rw [← sC]
  show (C.heap.push _)[C.heap.size]? = _; simp
theorem dec_closed {l : List UInt8} (h : ¬ OpenOk l) : ¬ decOk l := fun h2 => h h2.1

theorem rdText_le (r : Option (List UInt8)) (m : Nat) : (rdText r m).1.length ≤ m := by
  rcases ht : rdText r m with ⟨bb, _ | t⟩
  · have : bb = [] := by
      unfold rdText at ht
      split at ht
      · exact (congrArg Prod.fst ht).symm
      · split at ht
        · exact (congrArg Prod.fst ht).symm
        · simp at ht
    rw [this]; simp
  · exact (rdText_some ht).2
theorem DS.fin {w W W' : World} {N : Nat} {s : Stp} {r : Option (List UInt8)} {y0 y1 y2 y3 : Int} {cv lv : Value} {chk lg : List Int} (h : DS w N s r y0 y1 y2 y3 cv lv chk lg W)
    (hf : ∀ k, k ≠ w.heap.size → W'.heap[k]? = W.heap[k]?) : Own (Value.int .i64) 3 w.heap.size W' cv chk ∧ Own (Value.int .i64) 3 w.heap.size W' lv lg :=
  ⟨(show Own (Value.int .i64) 3 (N + 1 + 1 + 1 + 1) W' cv chk from own_block h.cown fun k hk => hf k (by have := (h.cown.lt k hk).1; have := h.lt; omega)).weaken (by have := h.lt; omega),
   (show Own (Value.int .i64) 3 (N + 1 + 1 + 1 + 1) W' lv lg from own_block h.lown fun k hk => hf k (by have := (h.lown.lt k hk).1; have := h.lt; omega)).weaken (by have := h.lt; omega)⟩
set_option maxHeartbeats 20000000 in
theorem sdec_any (l : List UInt8) (w : World) : Calls Tryd.prog 29 #[.string (mkS l)] w (DecPost w l) := by
  have HR0 := Lib.hid (R6.new w)
  by_cases ho : OpenOk l
  case neg =>
    have HD := Lib.hid (dec_closed ho)
    have HO : Hid (∀ W, R6 w W → Calls Tryd.prog 20 #[.string (mkS l)] W fun e w' => e = .returned (.tuple #[.agg #[.int .i64 0, .int .i64 0, .int .i64 0], .string ⟨#[]⟩, .int .i64 12]) ∧ R6 w w') := Lib.hid fun W h =>
      (open_any l W).mono fun e w' ⟨he, hb⟩ => ⟨by rw [he]; unfold openX openS openE; rw [if_neg ho, if_neg ho, if_neg ho]; rfl, h.below hb⟩
    have HFz : Hid (∀ W, R6 w W → ∀ o, (W.alloc o).frozen? ⟨w.heap.size, 0, none⟩ = false ∧ (W.alloc o).frozen? ⟨w.heap.size, 1, none⟩ = false ∧ (W.alloc o).frozen? ⟨w.heap.size, 2, none⟩ = false ∧ (W.alloc o).frozen? ⟨w.heap.size, 3, none⟩ = false ∧ (W.alloc o).frozen? ⟨w.heap.size, 4, none⟩ = false ∧ (W.alloc o).frozen? ⟨w.heap.size, 5, none⟩ = false) := Lib.hid fun W h o => free6 (h.below (below_new W o)).1
    have HCz : Hid (∀ W, R6 w W → ∀ o, (W.alloc o).cell? ⟨w.heap.size, 0, none⟩ = some (.int .i64 0) ∧ (W.alloc o).cell? ⟨w.heap.size, 1, none⟩ = some (.int .i64 0) ∧ (W.alloc o).cell? ⟨w.heap.size, 2, none⟩ = some (.int .i64 0) ∧ (W.alloc o).cell? ⟨w.heap.size, 3, none⟩ = some (.int .i64 0) ∧ (W.alloc o).cell? ⟨w.heap.size, 4, none⟩ = some (.slice none 0 0) ∧ (W.alloc o).cell? ⟨w.heap.size, 5, none⟩ = some (.slice none 0 0)) := Lib.hid fun W h o => cells6 (h.below (below_new W o)).1
    clear ho
    generalize mkS l = S at *
    go_enter Tryd.func29, Tryd.ntmps29
    go_wp2_with (go_at_call 20; (with_reducible refine (HO.out _ HR0.out).mono ?_); rintro e w1 ⟨rfl, hr1⟩; have e0 := fun o => (HFz.out _ hr1 o).1; have e1 := fun o => (HFz.out _ hr1 o).2.1; have e2 := fun o => (HFz.out _ hr1 o).2.2.1; have e3 := fun o => (HFz.out _ hr1 o).2.2.2.1; have e4 := fun o => (HFz.out _ hr1 o).2.2.2.2.1; have e5 := fun o => (HFz.out _ hr1 o).2.2.2.2.2; have d0 := fun o => (HCz.out _ hr1 o).1; have d1 := fun o => (HCz.out _ hr1 o).2.1; have d2 := fun o => (HCz.out _ hr1 o).2.2.1; have d3 := fun o => (HCz.out _ hr1 o).2.2.2.1; have d4 := fun o => (HCz.out _ hr1 o).2.2.2.2.1; have d5 := fun o => (HCz.out _ hr1 o).2.2.2.2.2; have HR1 := Lib.hid hr1; clear hr1)
    generalize hW9 : ((((((World.setCell _ _ _).setCell _ _).setCell _ _).setCell _ _).setCell _ _).setCell _ _) = W9
    have z1 := HR1.out.below (below_new w1 (.cells #[.int .i64 0, .int .i64 0, .int .i64 0] 23))
    have q9 := set6_blk z1.1 (.int .i64 0) (.int .i64 0) (.int .i64 0) (.int .i64 0) (.slice none 0 0) (.slice none 0 0)
    have b9 := set6_bel z1.2 (Nat.le_refl w.heap.size) (.int .i64 0) (.int .i64 0) (.int .i64 0) (.int .i64 0) (.slice none 0 0) (.slice none 0 0)
    rw [hW9] at q9 b9
    obtain ⟨g0, g1, g2, g3, g4, g5⟩ := cells6 q9
    (try simp only [Exit.inBlock, Exit.then])
    refine bodyPost_ret (by simp [results, Tryd.results29, go_sem, g0, g1, g2, g3, g4, g5]; try rfl) rfl ?_
    exact decPost_bad HD.out rfl b9
  have HO : Hid (∀ W, R6 w W → Calls Tryd.prog 20 #[.string (mkS l)] W fun e w' => e = .returned (.tuple #[(stOf l).val, .string (mkS (bodyOf l)), .int .i64 0]) ∧ R6 w w') := Lib.hid fun W h =>
    (open_any l W).mono fun e w' ⟨he, hb⟩ => ⟨by rw [he]; unfold openX openS openE; rw [if_pos ho, if_pos ho, if_pos ho], h.below hb⟩
  have hbl : (bodyOf l).length ≤ 104 := by rw [bodyOf_length ho.1 ho.2.1]; exact ho.2.1
  have HN : Hid (∀ W, Calls Tryd.prog 73 #[.string (mkS (bodyOf l))] W fun e w' => e = .returned (.pointer (some ⟨W.heap.size, 0, none⟩)) ∧ W.alloc (.cells #[.string (mkS (bodyOf l)), .bool true] 138) = w') := Lib.hid fun W => rNew_any _ W
  obtain ⟨body, hbody⟩ : ∃ body, bodyOf l = body := ⟨_, rfl⟩
  obtain ⟨st, hst⟩ : ∃ st, stOf l = st := ⟨_, rfl⟩
  have HOk : Hid (decOk l ↔ ((readS body).2 = some [] ∧ (readS body).1.fit ∧ st = stampB (readS body).1)) := Lib.hid (by
    unfold decOk; rw [hbody, hst]
    exact ⟨fun h => h.2, fun h => ⟨ho, h⟩⟩)
  have HXl : Hid (bodyOf l = body) := Lib.hid hbody
  rw [hbody] at HO HN hbl
  rw [hst] at HO
  clear hbody hst ho
  -- the readers' states, one behind the other
  obtain ⟨p1, hp1⟩ : ∃ p, rdInt (some body) 1099511627776 = p := ⟨_, rfl⟩
  obtain ⟨p2, hp2⟩ : ∃ p, rdInt p1.2 1099511627776 = p := ⟨_, rfl⟩
  obtain ⟨p3, hp3⟩ : ∃ p, rdInt p2.2 1099511627776 = p := ⟨_, rfl⟩
  obtain ⟨p4, hp4⟩ : ∃ p, rdInt p3.2 1099511627776 = p := ⟨_, rfl⟩
  obtain ⟨p5, hp5⟩ : ∃ p, rdText p4.2 63 = p := ⟨_, rfl⟩
  obtain ⟨p6, hp6⟩ : ∃ p, rdText p5.2 63 = p := ⟨_, rfl⟩
  have HRd : Hid (readS body = (⟨p1.1, p2.1, p3.1, p4.1, nums p5.1, nums p6.1⟩, p6.2)) := Lib.hid (by
    unfold readS; simp only; rw [hp1, hp2, hp3, hp4, hp5, hp6])
  have l0 : ∀ m, some body = some m → m.length ≤ 1000 := fun m h => by cases h; omega
  have l1 := rdInt_len (high := 1099511627776) l0
  rw [hp1] at l1
  have l2 := rdInt_len (high := 1099511627776) l1
  rw [hp2] at l2
  have l3 := rdInt_len (high := 1099511627776) l2
  rw [hp3] at l3
  have l4 := rdInt_len (high := 1099511627776) l3
  rw [hp4] at l4
  have l5 := rdText_len (m := 63) l4
  rw [hp5] at l5
  have HL := Lib.hid (And.intro l0 (And.intro l1 (And.intro l2 (And.intro l3 (And.intro l4 l5)))))
  have HP := Lib.hid (And.intro hp1 (And.intro hp2 (And.intro hp3 (And.intro hp4 (And.intro hp5 hp6)))))
  clear l0 l1 l2 l3 l4 l5 hp1 hp2 hp3 hp4 hp5 hp6 hbl
  obtain ⟨sa, sb, sc⟩ := st
  unfold Stp.val at HO
  simp only at HO
  generalize mkS l = S at *
  go_enter Tryd.func29, Tryd.ntmps29
  go_upto_region 6 with (first | (go_at_call 20; (with_reducible refine (HO.out _ HR0.out).mono ?_); rintro e w1 ⟨rfl, hr1⟩; have HR1 := Lib.hid hr1; clear hr1) | (go_at_call 73; (with_reducible refine (HN.out _).mono ?_); rintro e w2 ⟨rfl, rfl⟩))
  have hds := ds_new HR1.out sa sb sc body
  generalize hW0 : ((((w1.alloc _).alloc _).alloc _).alloc _) = W0
  rw [hW0] at hds
  generalize w1.heap.size = N at *
  have HD0 := Lib.hid hds
  clear hW0 hds HR1 HN HO HR0
  have AM : Hid (∀ (r : Option (List UInt8)) (p : Nat × Option (List UInt8)), rdInt r 1099511627776 = p → (∀ m, r = some m → m.length ≤ 1000) → ∀ W, DS w N ⟨sa, sb, sc⟩ r 0 0 0 0 (.slice none 0 0) (.slice none 0 0) [] [] W → Calls Tryd.prog 74 #[.agg #[.pointer (some ⟨N + 1, 0, none⟩)]] W fun e w' => e = .returned (.int .i64 (p.1 : Int)) ∧ DS w N ⟨sa, sb, sc⟩ p.2 0 0 0 0 (.slice none 0 0) (.slice none 0 0) [] [] w') := Lib.hid fun r p hp hr W h => by
    subst hp
    exact (amount_any (N + 1) r W h.rd hr).mono fun e w' ⟨he, h1, h2⟩ => ⟨he, h.read h1 h2⟩
  have A1 := Lib.hid (AM.out _ _ HP.out.1 HL.out.1)
  have A2 := Lib.hid (AM.out _ _ HP.out.2.1 HL.out.2.1)
  have A3 := Lib.hid (AM.out _ _ HP.out.2.2.1 HL.out.2.2.1)
  have A4 := Lib.hid (AM.out _ _ HP.out.2.2.2.1 HL.out.2.2.2.1)
  have hx := HD0.out.drew.boxc
  have HDd := Lib.hid HD0.out.drew
  go_cut [] from 22 (fun W => Hid (DS w N ⟨sa, sb, sc⟩ p4.2 p1.1 p2.1 p3.1 p4.1 (.slice none 0 0) (.slice none 0 0) [] [] W))
  case first =>
    go_region_held3 (fun W' : World => W'.cell? ⟨N + 1 + 1, 0, none⟩ = some (.pointer (some ⟨N + 1, 0, none⟩)))
      (first | exact hx | exact y1 | exact y2 | exact y3 | exact y4 | exact keepSet y4 (by show N + 1 + 1 + 1 ≠ N + 1 + 1; omega) | exact keepSet (keepSet y4 (by show N + 1 + 1 + 1 ≠ N + 1 + 1; omega)) (by show N + 1 + 1 + 1 ≠ N + 1 + 1; omega) | exact keepSet (keepSet (keepSet y4 (by show N + 1 + 1 + 1 ≠ N + 1 + 1; omega)) (by show N + 1 + 1 + 1 ≠ N + 1 + 1; omega)) (by show N + 1 + 1 + 1 ≠ N + 1 + 1; omega) | exact keepSet (keepSet (keepSet (keepSet y4 (by show N + 1 + 1 + 1 ≠ N + 1 + 1; omega)) (by show N + 1 + 1 + 1 ≠ N + 1 + 1; omega)) (by show N + 1 + 1 + 1 ≠ N + 1 + 1; omega)) (by show N + 1 + 1 + 1 ≠ N + 1 + 1; omega))
      (first
      | (go_at_call 74; have hq := X3; (with_reducible refine (A4.out _ hq.out).mono ?_); rintro e w4 ⟨rfl, h4⟩; have y4 := h4.boxc; have X4 := Lib.hid h4; have f4 := free6 h4.out; obtain ⟨e0, e1, e2, e3, _, _⟩ := f4; have c4 := cells6 h4.out; obtain ⟨d0, d1, d2, d3, _, _⟩ := c4; clear h4 hq)
      | (go_at_call 74; have hq := X2; (with_reducible refine (A3.out _ hq.out).mono ?_); rintro e w3 ⟨rfl, h3⟩; have y3 := h3.boxc; have X3 := Lib.hid h3; clear h3 hq)
      | (go_at_call 74; have hq := X1; (with_reducible refine (A2.out _ hq.out).mono ?_); rintro e w2 ⟨rfl, h2⟩; have y2 := h2.boxc; have X2 := Lib.hid h2; clear h2 hq)
      | (go_at_call 74; (with_reducible refine (A1.out _ HDd.out).mono ?_); rintro e w5 ⟨rfl, h1⟩; have y1 := h1.boxc; have X1 := Lib.hid h1; clear h1))
    go_wp2_with fail
    go_meet
    case rel => exact Lib.hid (X4.out.set4 _ _ _ _)
  case rest =>
    have HD1 := hcut
    clear hx HDd HD0 A1 A2 A3 A4 AM
    have SG1 : Hid (∀ W, DS w N ⟨sa, sb, sc⟩ p4.2 p1.1 p2.1 p3.1 p4.1 (.slice none 0 0) (.slice none 0 0) [] [] W → Calls Tryd.prog 75 #[.agg #[.pointer (some ⟨N + 1, 0, none⟩)]] W fun e w' => ∃ A c, e = .returned (.slice A (nums p5.1).length c) ∧ Own (Value.int .i64) 3 (N + 1 + 1 + 1 + 1) w' (.slice A (nums p5.1).length c) (nums p5.1) ∧ DS w N ⟨sa, sb, sc⟩ p5.2 p1.1 p2.1 p3.1 p4.1 (.slice none 0 0) (.slice none 0 0) [] [] w') := Lib.hid fun W h =>
      (segments_any (N + 1) p4.2 W h.rd HL.out.2.2.2.2.1).mono fun e w' ⟨v, he, h1, h2, h3⟩ => by
        rw [HP.out.2.2.2.2.1] at h1 h2
        obtain ⟨A, c, rfl⟩ := h1.slice
        exact ⟨A, c, he, h1.weaken h.sz, h.read h2 h3⟩
    have SG2 : Hid (∀ W A c, DS w N ⟨sa, sb, sc⟩ p5.2 p1.1 p2.1 p3.1 p4.1 (.slice none 0 0) (.slice none 0 0) [] [] W → Own (Value.int .i64) 3 (N + 1 + 1 + 1 + 1) W (.slice A (nums p5.1).length c) (nums p5.1) → Calls Tryd.prog 75 #[.agg #[.pointer (some ⟨N + 1, 0, none⟩)]] W fun e w' => ∃ B d, e = .returned (.slice B (nums p6.1).length d) ∧ Own (Value.int .i64) 3 (N + 1 + 1 + 1 + 1) w' (.slice A (nums p5.1).length c) (nums p5.1) ∧ Own (Value.int .i64) 3 (N + 1 + 1 + 1 + 1) w' (.slice B (nums p6.1).length d) (nums p6.1) ∧ DS w N ⟨sa, sb, sc⟩ p6.2 p1.1 p2.1 p3.1 p4.1 (.slice none 0 0) (.slice none 0 0) [] [] w') := Lib.hid fun W A c h hA =>
      (segments_any (N + 1) p5.2 W h.rd HL.out.2.2.2.2.2).mono fun e w' ⟨v, he, h1, h2, h3⟩ => by
        rw [HP.out.2.2.2.2.2] at h1 h2
        obtain ⟨B, d, rfl⟩ := h1.slice
        exact ⟨B, d, he, own_read hA h3, h1.weaken h.sz, h.read h2 h3⟩
    have hx := HD1.out.drew.boxc
    have HDd := Lib.hid HD1.out.drew
    obtain ⟨chk, hchk⟩ : ∃ chk, nums p5.1 = chk := ⟨_, rfl⟩
    obtain ⟨lg, hlg⟩ : ∃ lg, nums p6.1 = lg := ⟨_, rfl⟩
    rw [hchk] at SG1 SG2 HRd
    rw [hlg] at SG2 HRd
    have HB63 : Hid (chk.length ≤ 140737488351232 ∧ lg.length ≤ 140737488351232) := Lib.hid ⟨by rw [← hchk]; unfold nums; rw [List.length_map]; have := rdText_le p4.2 63; rw [HP.out.2.2.2.2.1] at this; omega, by rw [← hlg]; unfold nums; rw [List.length_map]; have := rdText_le p5.2 63; rw [HP.out.2.2.2.2.2] at this; omega⟩
    clear hchk hlg
    generalize hn : chk.length = n at *
    generalize hm : lg.length = m at *
    have HN := Lib.hid hn
    have HM := Lib.hid hm
    clear hn hm
    go_upto_region 7 with fail
    go_cut [] from 34 (fun W => ∃ A c B d, Hid (DS w N ⟨sa, sb, sc⟩ p6.2 p1.1 p2.1 p3.1 p4.1 (.slice A n c) (.slice B m d) chk lg W))
    case first =>
      go_region_held3 (fun W' : World => W'.cell? ⟨N + 1 + 1, 0, none⟩ = some (.pointer (some ⟨N + 1, 0, none⟩)))
        (first | exact hx | exact y1 | exact y2 | exact keepSet y2 (by show N + 1 + 1 + 1 ≠ N + 1 + 1; omega) | exact keepSet (keepSet y2 (by show N + 1 + 1 + 1 ≠ N + 1 + 1; omega)) (by show N + 1 + 1 + 1 ≠ N + 1 + 1; omega))
        (first
        | (go_at_call 75; have hq := X1; (with_reducible refine (SG2.out _ _ _ hq.out O1.out).mono ?_); rintro e w2 ⟨B2, d2, rfl, o1, o2, h2⟩; have y2 := h2.boxc; have X2 := Lib.hid h2; have O2 := Lib.hid (And.intro o1 o2); have f4 := free6 h2.out; obtain ⟨_, _, _, _, e4, e5⟩ := f4; have c4 := cells6 h2.out; obtain ⟨_, _, _, _, d4, d5⟩ := c4; clear h2 hq o1 o2)
        | (go_at_call 75; (with_reducible refine (SG1.out _ HDd.out).mono ?_); rintro e w5 ⟨A1, c1, rfl, o1, h1⟩; have y1 := h1.boxc; have X1 := Lib.hid h1; have O1 := Lib.hid o1; clear h1 o1))
      go_wp2_with fail
      go_meet
      case rel => exact ⟨_, _, _, _, Lib.hid (X2.out.set2 O2.out.1 O2.out.2)⟩
    case rest =>
      obtain ⟨A, c, B, d, HD2⟩ := hcut
      have RD : Hid (∀ W, DS w N ⟨sa, sb, sc⟩ p6.2 p1.1 p2.1 p3.1 p4.1 (.slice A n c) (.slice B m d) chk lg W → Calls Tryd.prog 76 #[.pointer (some ⟨N + 1, 0, none⟩)] W fun e w' => e = .returned (.bool (decide (p6.2 = some []))) ∧ W = w') := Lib.hid fun W h => rDone_any _ _ W h.rd
      have FT : Hid (∀ W, DS w N ⟨sa, sb, sc⟩ p6.2 p1.1 p2.1 p3.1 p4.1 (.slice A n c) (.slice B m d) chk lg W → Calls Tryd.prog 32 #[.agg #[.int .i64 (p1.1 : Int), .int .i64 (p2.1 : Int), .int .i64 (p3.1 : Int), .int .i64 (p4.1 : Int), .slice A n c, .slice B m d]] W fun e w' => e = .returned (.bool (decide (Sup.fit ⟨p1.1, p2.1, p3.1, p4.1, chk, lg⟩))) ∧ DS w N ⟨sa, sb, sc⟩ p6.2 p1.1 p2.1 p3.1 p4.1 (.slice A n c) (.slice B m d) chk lg w') := Lib.hid fun W h => by
        have e1 := HN.out
        have e2 := HM.out
        have e3 := HB63.out.1
        have e4 := HB63.out.2
        subst e1
        subst e2
        exact (sfit_any ⟨p1.1, p2.1, p3.1, p4.1, chk, lg⟩ A B c d W h.cown.sl h.lown.sl e3 e4).mono fun e w' ⟨he, hb⟩ => ⟨he, h.below hb⟩
      have bx := HD2.out.boxc
      have q1 := cells6 HD2.out.out
      obtain ⟨d0, d1, d2, d3, d4, d5⟩ := q1
      have q8 := free6 HD2.out.res
      obtain ⟨e0, e1, e2, e3, e4, e5⟩ := q8
      have q9 := cells6 HD2.out.res
      obtain ⟨r0, r1, r2, r3, r4, r5⟩ := q9
      have HOk2 : Hid (decOk l ↔ (p6.2 = some [] ∧ Sup.fit ⟨p1.1, p2.1, p3.1, p4.1, chk, lg⟩ ∧ (sa = (p1.1 : Int) ∧ sb = 0 ∧ sc = 1))) := Lib.hid (by
        rw [HOk.out, HRd.out]
        simp only [stampB, Stp.mk.injEq])
      obtain ⟨bd, hbd⟩ : ∃ b, decide (p6.2 = some []) = b := ⟨_, rfl⟩
      obtain ⟨bf, hbf⟩ : ∃ b, decide (Sup.fit ⟨p1.1, p2.1, p3.1, p4.1, chk, lg⟩) = b := ⟨_, rfl⟩
      rw [hbd] at RD
      rw [hbf] at FT
      have HBd := Lib.hid hbd
      have HBf := Lib.hid hbf
      clear hbd hbf HOk
      cases bd
      · have HNo : Hid (¬ decOk l) := Lib.hid fun h => by have := (HOk2.out.1 h).1; exact absurd this (of_decide_eq_false HBd.out)
        go_wp2_with (first | (go_at_call 76; (with_reducible refine (RD.out _ HD2.out).mono ?_); rintro e w5 ⟨rfl, rfl⟩) | (go_at_call 32; (with_reducible refine (FT.out _ HD2.out).mono ?_); rintro e w6 ⟨rfl, h6⟩; have H6 := Lib.hid h6; have q6 := cells6 h6.out; obtain ⟨d0', d1', d2', d3', d4', d5'⟩ := q6; have q7 := cells3 h6.st; obtain ⟨s0, s1, s2⟩ := q7; have q8 := free6 h6.res; obtain ⟨e0, e1, e2, e3, e4, e5⟩ := q8; have q9 := cells6 h6.res; obtain ⟨r0, r1, r2, r3, r4, r5⟩ := q9; clear h6))
        generalize hW9 : ((((((World.setCell _ _ _).setCell _ _).setCell _ _).setCell _ _).setCell _ _).setCell _ _) = W9
        have q9 := set6_blk HD2.out.res (.int .i64 0) (.int .i64 0) (.int .i64 0) (.int .i64 0) (.slice none 0 0) (.slice none 0 0)
        have b9 := set6_bel HD2.out.bel (Nat.le_refl w.heap.size) (.int .i64 0) (.int .i64 0) (.int .i64 0) (.int .i64 0) (.slice none 0 0) (.slice none 0 0)
        rw [hW9] at q9 b9
        obtain ⟨g0, g1, g2, g3, g4, g5⟩ := cells6 q9
        (try simp only [Exit.inBlock, Exit.then])
        refine bodyPost_ret (by simp [results, Tryd.results29, go_sem, g0, g1, g2, g3, g4, g5]; try rfl) rfl ?_
        exact decPost_bad HNo.out rfl b9
      · cases bf
        · have HNo : Hid (¬ decOk l) := Lib.hid fun h => by have := (HOk2.out.1 h).2.1; exact absurd this (of_decide_eq_false HBf.out)
          clear e0 e1 e2 e3 e4 e5 r0 r1 r2 r3 r4 r5
          go_wp2_with (first | (go_at_call 76; (with_reducible refine (RD.out _ HD2.out).mono ?_); rintro e w5 ⟨rfl, rfl⟩) | (go_at_call 32; (with_reducible refine (FT.out _ HD2.out).mono ?_); rintro e w6 ⟨rfl, h6⟩; have H6 := Lib.hid h6; have q6 := cells6 h6.out; obtain ⟨d0', d1', d2', d3', d4', d5'⟩ := q6; have q7 := cells3 h6.st; obtain ⟨s0, s1, s2⟩ := q7; have q8 := free6 h6.res; obtain ⟨e0, e1, e2, e3, e4, e5⟩ := q8; have q9 := cells6 h6.res; obtain ⟨r0, r1, r2, r3, r4, r5⟩ := q9; clear h6))
          generalize hW9 : ((((((World.setCell _ _ _).setCell _ _).setCell _ _).setCell _ _).setCell _ _).setCell _ _) = W9
          have q9 := set6_blk H6.out.res (.int .i64 0) (.int .i64 0) (.int .i64 0) (.int .i64 0) (.slice none 0 0) (.slice none 0 0)
          have b9 := set6_bel H6.out.bel (Nat.le_refl w.heap.size) (.int .i64 0) (.int .i64 0) (.int .i64 0) (.int .i64 0) (.slice none 0 0) (.slice none 0 0)
          rw [hW9] at q9 b9
          obtain ⟨g0, g1, g2, g3, g4, g5⟩ := cells6 q9
          (try simp only [Exit.inBlock, Exit.then])
          refine bodyPost_ret (by simp [results, Tryd.results29, go_sem, g0, g1, g2, g3, g4, g5]; try rfl) rfl ?_
          exact decPost_bad HNo.out rfl b9
        · have hst : (sa = (p1.1 : Int) ∧ sb = 0 ∧ sc = 1) ∨ ((sa == (p1.1 : Int)) = false) ∨ (sa = (p1.1 : Int) ∧ (sb == 0) = false) ∨ (sa = (p1.1 : Int) ∧ sb = 0 ∧ (sc == 1) = false) := by
            by_cases h1 : sa = (p1.1 : Int) <;> by_cases h2 : sb = 0 <;> by_cases h3 : sc = 1 <;> simp [h1, h2, h3]
          have HNo : Hid (((sa == (p1.1 : Int)) = false) ∨ (sa = (p1.1 : Int) ∧ (sb == 0) = false) ∨ (sa = (p1.1 : Int) ∧ sb = 0 ∧ (sc == 1) = false) → ¬ decOk l) := Lib.hid fun h h2 => by
            obtain ⟨_, _, h3, h4, h5⟩ := HOk2.out.1 h2
            subst h3 h4 h5
            simp at h
          have HYes : Hid ((sa = (p1.1 : Int) ∧ sb = 0 ∧ sc = 1) → decOk l) := Lib.hid fun h => HOk2.out.2 ⟨of_decide_eq_true HBd.out, of_decide_eq_true HBf.out, h⟩
          clear e0 e1 e2 e3 e4 e5 r0 r1 r2 r3 r4 r5
          rcases hst with ⟨rfl, rfl, rfl⟩ | hst | ⟨rfl, hst⟩ | ⟨rfl, rfl, hst⟩
          · have HY := Lib.hid (HYes.out ⟨rfl, rfl, rfl⟩)
            clear HNo HYes
            go_wp2_with (first | (go_at_call 76; (with_reducible refine (RD.out _ HD2.out).mono ?_); rintro e w5 ⟨rfl, rfl⟩) | (go_at_call 32; (with_reducible refine (FT.out _ HD2.out).mono ?_); rintro e w6 ⟨rfl, h6⟩; have H6 := Lib.hid h6; have q6 := cells6 h6.out; obtain ⟨d0', d1', d2', d3', d4', d5'⟩ := q6; have q7 := cells3 h6.st; obtain ⟨s0, s1, s2⟩ := q7; have q8 := free6 h6.res; obtain ⟨e0, e1, e2, e3, e4, e5⟩ := q8; have q9 := cells6 h6.res; obtain ⟨r0, r1, r2, r3, r4, r5⟩ := q9; clear h6))
            generalize hW9 : ((((((World.setCell _ _ _).setCell _ _).setCell _ _).setCell _ _).setCell _ _).setCell _ _) = W9
            have q9 := set6_blk H6.out.res (.int .i64 (p1.1 : Int)) (.int .i64 (p2.1 : Int)) (.int .i64 (p3.1 : Int)) (.int .i64 (p4.1 : Int)) (.slice A n c) (.slice B m d)
            have b9 := set6_bel H6.out.bel (Nat.le_refl w.heap.size) (.int .i64 (p1.1 : Int)) (.int .i64 (p2.1 : Int)) (.int .i64 (p3.1 : Int)) (.int .i64 (p4.1 : Int)) (.slice A n c) (.slice B m d)
            have fr : ∀ k, k ≠ w.heap.size → W9.heap[k]? = w6.heap[k]? := fun k hk => by
              rw [← hW9, far_set hk, far_set hk, far_set hk, far_set hk, far_set hk, far_set hk]
            have sl9 := H6.out.fin fr
            rw [hW9] at q9 b9
            obtain ⟨g0, g1, g2, g3, g4, g5⟩ := cells6 q9
            (try simp only [Exit.inBlock, Exit.then])
            refine bodyPost_ret (by simp [results, Tryd.results29, go_sem, g0, g1, g2, g3, g4, g5]; try rfl) rfl ?_
            have e1 := HN.out
            have e2 := HM.out
            subst e1
            subst e2
            have hx1 : decX l = ⟨p1.1, p2.1, p3.1, p4.1, chk, lg⟩ := by unfold decX; rw [if_pos HY.out, HXl.out, HRd.out]
            have hx2 : decE l = 0 := by unfold decE; rw [if_pos HY.out]
            exact ⟨_, by rw [hx2], by rw [hx1]; exact ⟨A, c, B, d, rfl, sl9.1, sl9.2⟩, b9⟩
          · have HNo2 := Lib.hid (HNo.out (.inl hst))
            clear HNo HYes
            go_wp2_with (first | (go_at_call 76; (with_reducible refine (RD.out _ HD2.out).mono ?_); rintro e w5 ⟨rfl, rfl⟩) | (go_at_call 32; (with_reducible refine (FT.out _ HD2.out).mono ?_); rintro e w6 ⟨rfl, h6⟩; have H6 := Lib.hid h6; have q6 := cells6 h6.out; obtain ⟨d0', d1', d2', d3', d4', d5'⟩ := q6; have q7 := cells3 h6.st; obtain ⟨s0, s1, s2⟩ := q7; have q8 := free6 h6.res; obtain ⟨e0, e1, e2, e3, e4, e5⟩ := q8; have q9 := cells6 h6.res; obtain ⟨r0, r1, r2, r3, r4, r5⟩ := q9; clear h6))
            generalize hW9 : ((((((World.setCell _ _ _).setCell _ _).setCell _ _).setCell _ _).setCell _ _).setCell _ _) = W9
            have q9 := set6_blk H6.out.res (.int .i64 0) (.int .i64 0) (.int .i64 0) (.int .i64 0) (.slice none 0 0) (.slice none 0 0)
            have b9 := set6_bel H6.out.bel (Nat.le_refl w.heap.size) (.int .i64 0) (.int .i64 0) (.int .i64 0) (.int .i64 0) (.slice none 0 0) (.slice none 0 0)
            rw [hW9] at q9 b9
            obtain ⟨g0, g1, g2, g3, g4, g5⟩ := cells6 q9
            (try simp only [Exit.inBlock, Exit.then])
            refine bodyPost_ret (by simp [results, Tryd.results29, go_sem, g0, g1, g2, g3, g4, g5]; try rfl) rfl ?_
            exact decPost_bad HNo2.out rfl b9
          · have HNo2 := Lib.hid (HNo.out (.inr (.inl ⟨rfl, hst⟩)))
            clear HNo HYes
            go_wp2_with (first | (go_at_call 76; (with_reducible refine (RD.out _ HD2.out).mono ?_); rintro e w5 ⟨rfl, rfl⟩) | (go_at_call 32; (with_reducible refine (FT.out _ HD2.out).mono ?_); rintro e w6 ⟨rfl, h6⟩; have H6 := Lib.hid h6; have q6 := cells6 h6.out; obtain ⟨d0', d1', d2', d3', d4', d5'⟩ := q6; have q7 := cells3 h6.st; obtain ⟨s0, s1, s2⟩ := q7; have q8 := free6 h6.res; obtain ⟨e0, e1, e2, e3, e4, e5⟩ := q8; have q9 := cells6 h6.res; obtain ⟨r0, r1, r2, r3, r4, r5⟩ := q9; clear h6))
            generalize hW9 : ((((((World.setCell _ _ _).setCell _ _).setCell _ _).setCell _ _).setCell _ _).setCell _ _) = W9
            have q9 := set6_blk H6.out.res (.int .i64 0) (.int .i64 0) (.int .i64 0) (.int .i64 0) (.slice none 0 0) (.slice none 0 0)
            have b9 := set6_bel H6.out.bel (Nat.le_refl w.heap.size) (.int .i64 0) (.int .i64 0) (.int .i64 0) (.int .i64 0) (.slice none 0 0) (.slice none 0 0)
            rw [hW9] at q9 b9
            obtain ⟨g0, g1, g2, g3, g4, g5⟩ := cells6 q9
            (try simp only [Exit.inBlock, Exit.then])
            refine bodyPost_ret (by simp [results, Tryd.results29, go_sem, g0, g1, g2, g3, g4, g5]; try rfl) rfl ?_
            exact decPost_bad HNo2.out rfl b9
          · have HNo2 := Lib.hid (HNo.out (.inr (.inr ⟨rfl, rfl, hst⟩)))
            clear HNo HYes
            go_wp2_with (first | (go_at_call 76; (with_reducible refine (RD.out _ HD2.out).mono ?_); rintro e w5 ⟨rfl, rfl⟩) | (go_at_call 32; (with_reducible refine (FT.out _ HD2.out).mono ?_); rintro e w6 ⟨rfl, h6⟩; have H6 := Lib.hid h6; have q6 := cells6 h6.out; obtain ⟨d0', d1', d2', d3', d4', d5'⟩ := q6; have q7 := cells3 h6.st; obtain ⟨s0, s1, s2⟩ := q7; have q8 := free6 h6.res; obtain ⟨e0, e1, e2, e3, e4, e5⟩ := q8; have q9 := cells6 h6.res; obtain ⟨r0, r1, r2, r3, r4, r5⟩ := q9; clear h6))
            generalize hW9 : ((((((World.setCell _ _ _).setCell _ _).setCell _ _).setCell _ _).setCell _ _).setCell _ _) = W9
            have q9 := set6_blk H6.out.res (.int .i64 0) (.int .i64 0) (.int .i64 0) (.int .i64 0) (.slice none 0 0) (.slice none 0 0)
            have b9 := set6_bel H6.out.bel (Nat.le_refl w.heap.size) (.int .i64 0) (.int .i64 0) (.int .i64 0) (.int .i64 0) (.slice none 0 0) (.slice none 0 0)
            rw [hW9] at q9 b9
            obtain ⟨g0, g1, g2, g3, g4, g5⟩ := cells6 q9
            (try simp only [Exit.inBlock, Exit.then])
            refine bodyPost_ret (by simp [results, Tryd.results29, go_sem, g0, g1, g2, g3, g4, g5]; try rfl) rfl ?_
            exact decPost_bad HNo2.out rfl b9
end Go.Proofs.YtoojdknfommpbaaDoor
