/- Acts in memory; the walks of the document's SameWaits, Few. -/
import Derived.Test.YtoojdknfommpbaaDoorDiskData
import Derived.Laws.StructEq
namespace Go.Proofs.YtoojdknfommpbaaDoor
open Go.RowKit
set_option maxRecDepth 10000

/-- Acts in memory: five cells each. -/
def ActsAt (w : World) (v : Value) (l : List Ac) : Prop :=
  ∃ A c, v = .slice A l.length c ∧ ∀ i (h : i < l.length), ∃ b off kv, A = some ⟨b, off, none⟩ ∧ w.cell? ⟨b, off + i * 5, none⟩ = some (.int .i64 l[i].kind) ∧ w.cell? ⟨b, off + i * 5 + 1, none⟩ = some (.int .i64 l[i].at_) ∧
    w.cell? ⟨b, off + i * 5 + 2, none⟩ = some (.int .u8 l[i].fill) ∧ w.cell? ⟨b, off + i * 5 + 3, none⟩ = some (.int .i64 l[i].size) ∧ w.cell? ⟨b, off + i * 5 + 4, none⟩ = some kv ∧ Sl Value.bool w kv l[i].keep
theorem ActsAt.below {w w1 : World} {v : Value} {l : List Ac} (h : ActsAt w v l) (hb : Below w.heap.size w w1) : ActsAt w1 v l := by
  obtain ⟨A, c, hv, hl⟩ := h
  refine ⟨A, c, hv, fun i hi => ?_⟩
  obtain ⟨b, off, kv, ha, h0, h1, h2, h3, h4, h5⟩ := hl i hi
  exact ⟨b, off, kv, ha, cell_below hb h0, cell_below hb h1, cell_below hb h2, cell_below hb h3, cell_below hb h4, h5.below hb⟩
def fewB (l : List Ac) (most : Nat) : Bool := (l.take most).all (fun a => decide (a.keep.length ≤ 100)) && decide (l.length ≤ most)
theorem all_snoc (p : Ac → Bool) (l : List Ac) (k : Nat) (h : k < l.length) : (l.take (k + 1)).all p = ((l.take k).all p && p l[k]) := by
  rw [take_succ' _ _ h, List.all_append]; simp
theorem few_any (v : Value) (l : List Ac) (most : Nat) (w : World) (hs : ActsAt w v l) (hl : l.length ≤ 9223372036854775807) (hk : ∀ a ∈ l, a.keep.length ≤ 9223372036854775807) (hm : most ≤ 1000000) :
    Calls Tryd.prog 39 #[v, .int .i64 (most : Int)] w fun e w' => e = .returned (.bool (fewB l most)) ∧ w = w' := by
  obtain ⟨A, c, rfl, hread⟩ := hs
  have HR := Lib.hid hread; clear hread
  have HK := Lib.hid hk; clear hk
  have hlI : (l.length : Int) ≤ 9223372036854775807 := by omega
  have hmI : (most : Int) ≤ 1000000 := by omega
  obtain ⟨p, hp⟩ : ∃ p : Ac → Bool, p = fun a => decide (a.keep.length ≤ 100) := ⟨_, rfl⟩
  have HF : Hid (fewB l most = ((l.take most).all p && decide (l.length ≤ most))) := Lib.hid (by rw [hp]; rfl)
  have HP : Hid (∀ a, p a = decide (a.keep.length ≤ 100)) := Lib.hid fun a => by rw [hp]
  clear hp
  obtain ⟨R, hR⟩ : ∃ R, fewB l most = R := ⟨_, rfl⟩
  rw [hR] at HF ⊢
  clear hR
  go_enter Tryd.func39, Tryd.ntmps39
  go_wp2
  go_loop [5] (fun i => ∃ k : Nat, k ≤ l.length ∧ k ≤ most ∧ i = .int .i64 k ∧ Hid ((l.take k).all p = true)) (fun i => l.length - (intOf i).toNat)
  case atStart => exact ⟨0, by omega, by omega, rfl, Lib.hid rfl⟩
  case round =>
    obtain ⟨k, hk, hkm, rfl, HA⟩ := hrel
    by_cases hlt : k < l.length
    · have hltI : (k : Int) < (l.length : Int) := by omega
      by_cases hlm : k < most
      · have hlmI : (k : Int) < (most : Int) := by omega
        obtain ⟨b, off, kv, rfl, _, _, _, _, q4, hkv⟩ := HR.out k hlt
        obtain ⟨KA, kc, rfl, hq1, hq2⟩ := hkv
        clear hq1 hq2
        have HS := Lib.hid (all_snoc p l k hlt)
        have hkl := HK.out _ (List.getElem_mem hlt)
        have HPk := Lib.hid (HP.out l[k])
        have HAll : Hid (p l[k] = false → (l.take most).all p = false) := Lib.hid fun h => by
          cases h2 : (l.take most).all p
          · rfl
          · have h3 := List.all_eq_true.1 h2 l[k] (by
              have : l[k] = (l.take most)[k]'(by rw [List.length_take]; omega) := by rw [List.getElem_take]
              rw [this]; exact List.getElem_mem _)
            rw [h] at h3; cases h3
        generalize l[k] = a at *
        generalize a.keep.length = kl at *
        have hklI : (kl : Int) ≤ 9223372036854775807 := by omega
        by_cases h100 : kl ≤ 100
        · have h1I : (kl : Int) ≤ 100 := by omega
          have HS2 : Hid ((l.take (k + 1)).all p = true) := Lib.hid (by rw [HS.out, HA.out, HPk.out, decide_eq_true h100]; rfl)
          go_wp2
          go_round
          case measure => simp [intOf]; omega
          case rel => exact ⟨k + 1, by omega, by omega, by go_num, HS2⟩
        · have h1I : 100 < (kl : Int) := by omega
          have HS2 : Hid (R = false) := Lib.hid (by rw [HF.out, HAll.out (by rw [HPk.out, decide_eq_false h100])]; rfl)
          go_wp2
          go_ret
          exact ⟨by rw [HS2.out]; rfl, rfl⟩
      · obtain rfl : k = most := by omega
        have h1 : ¬ (l.length : Int) ≤ (k : Int) := by omega
        have HE : Hid (R = false) := Lib.hid (by rw [HF.out, decide_eq_false (by omega)]; simp)
        go_wp2
        go_ret
        exact ⟨by rw [HE.out]; rfl, rfl⟩
    · obtain rfl : k = l.length := by omega
      have HE : Hid (R = true) := Lib.hid (by
        rw [HF.out]
        have h2 := HA.out
        rw [List.take_length] at h2
        rw [List.take_of_length_le hkm, h2, decide_eq_true hkm]; rfl)
      have hkmI : (l.length : Int) ≤ (most : Int) := by omega
      go_wp2
      go_ret
      exact ⟨by rw [HE.out]; rfl, rfl⟩
theorem neq_write (W : World) (x y : Nat × ByteArray) : (binOp .neq 119 (.agg #[.int .i64 (x.1 : Int), .string x.2]) (.agg #[.int .i64 (y.1 : Int), .string y.2])).run Tryd.prog W = .ok (.bool (!decide (x = y))) W := by
  have u3 := Tryd.underlying3
  have a3 := Tryd.isAgg3
  have z3 := Tryd.sizeOf3
  have u9 := Tryd.underlying9
  have a9 := Tryd.isAgg9
  have z9 := Tryd.sizeOf9
  have hS : Tryd.prog.underlying 119 = some (.struct (Tryd.prog.fieldsOf 119)) := by kernel_rfl
  have hp : Tryd.prog.stoodInHeld 119 = false := by kernel_rfl
  rw [run_neq_struct, show (10000 : Nat) = 9999 + 1 from rfl, run_equalIn_agg W 9999 119 _ _ hS hp]
  simp only [Program.fieldsOf, Tryd.underlying119]
  go_simp
  obtain ⟨x1, x2⟩ := x
  obtain ⟨y1, y2⟩ := y
  have hs2 : x2.toList = y2.toList ↔ x2 = y2 := ⟨str_inj, fun h => by rw [h]⟩
  by_cases h1 : x1 = y1
  · by_cases h2 : x2 = y2 <;> simp [h1, h2, hs2]
  · have h1I : ¬ ((x1 : Int) = (y1 : Int)) := by omega
    by_cases h2 : x2 = y2 <;> simp [h1, h2, h1I]
theorem samewaits_any (v1 v2 : Value) (l1 l2 : List (Nat × ByteArray)) (w : World) (h1 : w.ownsRow 0 119 2 v1 l1.length (wcells l1)) (h2 : w.ownsRow 0 119 2 v2 l2.length (wcells l2)) (hl1 : l1.length ≤ 1000000) (hl2 : l2.length ≤ 1000000) :
    Calls Tryd.prog 53 #[v1, v2] w fun e w' => e = .returned (.bool (decide (l1 = l2))) ∧ Below w.heap.size w w' := by
  obtain ⟨A1, c1, rfl, _⟩ := sl_form h1
  obtain ⟨A2, c2, rfl, _⟩ := sl_form h2
  have HR1 := Lib.hid h1; clear h1
  have HR2 := Lib.hid h2; clear h2
  have hI1 : (l1.length : Int) ≤ 1000000 := by omega
  have hgd : Tryd.prog.eqGuardType Tryd.prog.depth 119 = false := by kernel_rfl
  by_cases hne : l1.length = l2.length
  · have hneI : (l1.length : Int) = (l2.length : Int) := by omega
    have HN := Lib.hid hne
    go_enter Tryd.func53, Tryd.ntmps53
    go_wp2
    go_loopw [5] (fun i W => ∃ k : Nat, k ≤ l1.length ∧ i = .int .i64 k ∧ Hid (l1.take k = l2.take k ∧ Below w.heap.size w W)) (fun i _ => l1.length - (intOf i).toNat)
    case atStart => exact ⟨0, by omega, rfl, Lib.hid ⟨rfl, Below.refl _ _⟩⟩
    case round =>
      obtain ⟨k, hk, rfl, HI⟩ := hrel
      by_cases hlt : k < l1.length
      · have hlt2 : k < l2.length := by have := HN.out; omega
        obtain ⟨g1, rfl⟩ : ∃ g1, A1 = some ⟨g1, 0, none⟩ := by
          obtain ⟨g, c, he, _⟩ := World.ownsRow.form HR1.out (by omega)
          simp only [Value.slice.injEq] at he
          exact ⟨g, he.1⟩
        obtain ⟨g2, rfl⟩ : ∃ g2, A2 = some ⟨g2, 0, none⟩ := by
          obtain ⟨g, c, he, _⟩ := World.ownsRow.form HR2.out (by omega)
          simp only [Value.slice.injEq] at he
          exact ⟨g, he.1⟩
        have p0 := cell_below HI.out.2 (own_at HR1.out (k * 2) _ (by rw [Nat.mul_comm]; exact (wcells_at l1 k hlt).1))
        have p1 := cell_below HI.out.2 (own_at HR1.out (k * 2 + 1) _ (by rw [Nat.mul_comm]; exact (wcells_at l1 k hlt).2))
        have q0 := cell_below HI.out.2 (own_at HR2.out (k * 2) _ (by rw [Nat.mul_comm]; exact (wcells_at l2 k hlt2).1))
        have q1 := cell_below HI.out.2 (own_at HR2.out (k * 2 + 1) _ (by rw [Nat.mul_comm]; exact (wcells_at l2 k hlt2).2))
        have HT : Hid (l1[k] = l2[k] → l1.take (k + 1) = l2.take (k + 1)) := Lib.hid fun e => by rw [take_succ' _ _ hlt, take_succ' _ _ hlt2, HI.out.1, e]
        have HD : Hid (l1[k] ≠ l2[k] → decide (l1 = l2) = false) := Lib.hid fun e => decide_eq_false fun e2 => e (by subst e2; rfl)
        have hltI : (k : Int) < (l1.length : Int) := by omega
        have hltJ : (k : Int) < (l2.length : Int) := by omega
        obtain ⟨s1, hs1⟩ : ∃ s1, l1[k] = s1 := ⟨_, rfl⟩
        obtain ⟨s2, hs2⟩ : ∃ s2, l2[k] = s2 := ⟨_, rfl⟩
        rw [hs1] at p0 p1 HT HD
        rw [hs2] at q0 q1 HT HD
        clear hs1 hs2
        have hq := fun W => neq_write W s1 s2
        by_cases he : s1 = s2
        · have HT2 := Lib.hid (HT.out he)
          rw [decide_eq_true he] at hq
          go_wp2
          go_quiet (fail)
          go_wp2
          go_roundw
          case measure => simp [intOf]; omega
          case rel => exact ⟨k + 1, by omega, by go_num, Lib.hid ⟨HT2.out, below_drewN HI.out.2 _⟩⟩
        · have HD2 := Lib.hid (HD.out he)
          rw [decide_eq_false he] at hq
          go_wp2
          go_quiet (fail)
          go_wp2
          go_ret
          exact ⟨by rw [HD2.out]; rfl, below_drewN HI.out.2 _⟩
      · obtain rfl : k = l1.length := by omega
        have HE : Hid (decide (l1 = l2) = true) := Lib.hid (decide_eq_true (by
          have := HI.out.1
          rw [List.take_length] at this
          rw [this, HN.out, List.take_length]))
        go_wp2
        go_ret
        exact ⟨by rw [HE.out]; rfl, HI.out.2⟩
  · have hneI : ((l1.length : Int) != (l2.length : Int)) = true := by simp; omega
    have hneJ : ¬ (l1.length = l2.length) := hne
    have HE : Hid (decide (l1 = l2) = false) := Lib.hid (decide_eq_false fun e => hne (by rw [e]))
    rw [HE.out]
    go_enter Tryd.func53, Tryd.ntmps53
    go_wp2
    go_ret
    exact ⟨rfl, Below.refl _ _⟩
end Go.Proofs.YtoojdknfommpbaaDoor
