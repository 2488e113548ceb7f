/- The walks of the law's do and of the document's Do: an act. -/
import Derived.Test.YtoojdknfommpbaaDoorDiskRefNew
import Derived.Test.YtoojdknfommpbaaDoorDiskRef3
import Derived.Deep.RegionHeld3
namespace Go.Proofs.YtoojdknfommpbaaDoor
open Go.RowKit
set_option maxRecDepth 10000

/-- What an act does, and tells. -/
def St.act (s : St) (a : Ac) : St × (ByteArray × Int) :=
  if a.kind = 1 then ((s.write a.at_ a.data).1, (ByteArray.empty, (s.write a.at_ a.data).2))
  else if a.kind = 2 then (s.flush.1, (ByteArray.empty, s.flush.2))
  else if a.kind = 3 then (s.fuse a.at_, (ByteArray.empty, 0))
  else if a.kind = 4 then (s.crash a.keep a.at_, (ByteArray.empty, 0))
  else (s, s.read a.at_)
theorem St.ok.act {s : St} {n : Nat} (h : s.ok n) (a : Ac) : (s.act a).1.ok (n + 1) := by
  unfold St.act
  split
  · exact h.write _ _
  · split
    · exact h.flush
    · split
      · exact (h.fuse _).mono (Nat.le_succ _)
      · split
        · exact (h.crash _ _).mono (Nat.le_succ _)
        · exact h.mono (Nat.le_succ _)
theorem act_left {s : St} (h : s.left ≤ 9223372036854775807) (a : Ac) (ha : a.at_ ≤ 9223372036854775807) : (s.act a).1.left ≤ 9223372036854775807 := by
  have hop : s.op.left ≤ 9223372036854775807 := by unfold St.op; simp only; omega
  unfold St.act
  split
  · unfold St.write; repeat' split
    all_goals first | exact h | exact hop
  · split
    · unfold St.flush; repeat' split
      all_goals first | exact h | exact hop
    · split
      · unfold St.fuse; simp only; omega
      · split
        · unfold St.crash; simp
        · exact h
theorem below_dr {w W : World} (h : Below w.drew.heap.size w.drew W) : Below w.heap.size w W := ⟨h.os, h.tape, h.output, h.size, h.block⟩
theorem DStep.after {w w1 w2 : World} {b : Nat} {s' : St} {sv wv : Value} (h : DStep w1 b sv wv s' w2) (hb : Below w.heap.size w w1) : DStep w b sv wv s' w2 := by
  obtain ⟨sv', wv', h1, h2, h3⟩ := h
  refine ⟨sv', wv', h1, fun k hk => ?_, (tou_of_below hb).trans h3⟩
  rcases h2 k hk with h4 | h4
  · exact .inl h4
  · exact .inr (Nat.le_trans hb.size h4)
theorem RStep.after {w w1 w2 : World} {b : Nat} {s' : St} {sv wv : Value} (h : RStep w1 b sv wv s' w2) (hb : Below w.heap.size w w1) : RStep w b sv wv s' w2 := by
  obtain ⟨sv', wv', h1, h2, h3⟩ := h
  refine ⟨sv', wv', h1, fun k hk => ?_, (tou_of_below hb).trans h3⟩
  rcases h2 k hk with h4 | h4
  · exact .inl h4
  · exact .inr (Nat.le_trans hb.size h4)
theorem DiskAt.bel {w w1 : World} {b : Nat} {s : St} {sv wv : Value} (h : DiskAt w b s sv wv) (hb : Below w.heap.size w w1) : DiskAt w1 b s sv wv := h.keep fun k hk => hb.block k (h.lt k hk)
theorem RefAt.bel {w w1 : World} {b : Nat} {s : St} {sv wv : Value} (h : RefAt w b s sv wv) (hb : Below w.heap.size w w1) : RefAt w1 b s sv wv := h.keep fun k hk => hb.block k (h.lt k hk)
theorem DStep.tou {w w' : World} {b : Nat} {s : St} {sv wv : Value} (h : DStep w b sv wv s w') : Tou (Foot b sv wv) w w' := by obtain ⟨_, _, _, _, h⟩ := h; exact h
theorem RStep.tou {w w' : World} {b : Nat} {s : St} {sv wv : Value} (h : RStep w b sv wv s w') : Tou (Foot b sv wv) w w' := by obtain ⟨_, _, _, _, h⟩ := h; exact h
theorem fuse_step {w w2 : World} {b : Nat} {s : St} {sv wv : Value} {n : Int} (h : DiskAt w b s sv wv) (hok : s.ok 1000000) {A : Option Addr} {c : Nat} (hsv : sv = .slice A s.sec.length c) {e : Ending} (hp : FusePost 117 w b (.int .i64 (s.left : Int)) (.int .i64 (s.done : Int)) (.bool s.dead) wv A s.sec.length c n e w2) :
    e = .returned (.tuple #[]) ∧ DStep w b sv wv (s.fuse n) w2 := by
  obtain ⟨h1, h2, h3, _⟩ := hp
  rw [if_neg (by have := hok.two; omega)] at h2
  subst hsv
  exact ⟨h1, _, wv, ⟨h2, (h.rows.five h3).of_eq rfl rfl⟩, fun _ hk => .inl hk, h3.mono fun _ _ hk => .inl hk⟩
theorem rfuse_step {w w2 : World} {b : Nat} {s : St} {sv wv : Value} {n : Int} (h : RefAt w b s sv wv) (h2 : Five 77 w2 b sv wv (.int .i64 (n.toNat : Int)) (.int .i64 (s.done : Int)) (.bool s.dead)) (h3 : Tou (fun k => k = b) w w2) : RStep w b sv wv (s.fuse n) w2 :=
  ⟨sv, wv, ⟨h2, (h.rows.five h3).of_eq rfl rfl⟩, fun _ hk => .inl hk, h3.mono fun _ _ hk => .inl hk⟩
theorem five_cells {w : World} {B : Nat} {t : TypeId} {x0 x1 x2 x3 x4 : Value} (h : Five t w B x0 x1 x2 x3 x4) : (w.cell? ⟨B, 0, none⟩ = some x0 ∧ w.cell? ⟨B, 1, none⟩ = some x1 ∧ w.cell? ⟨B, 2, none⟩ = some x2 ∧ w.cell? ⟨B, 3, none⟩ = some x3 ∧ w.cell? ⟨B, 4, none⟩ = some x4) := ⟨h.c0, h.c1, h.c2, h.c3, h.c4⟩
set_option maxHeartbeats 2000000 in
theorem rdo_any (w : World) (b : Nat) (s : St) (sv wv : Value) (a : Ac) (kv : Value) (h : RefAt w b s sv wv) (hok : s.ok 1000000) (hleft : s.left ≤ 9223372036854775807) (ha : a.ok) (hkv : Sl Value.bool w kv a.keep) (hkl : a.keep.length ≤ 1000000) (hkF : ∀ a n c, kv = .slice (some a) n c → 0 < n → ¬ Foot b sv wv a.block) :
    Calls Tryd.prog 46 #[.pointer (some ⟨b, 0, none⟩), .agg (a.cells kv)] w fun e w' => e = .returned (.tuple #[.string (s.act a).2.1, .int .i64 (s.act a).2.2]) ∧ RStep w b sv wv (s.act a).1 w' := by
  have HD := Lib.hid h
  have hbw := below_new w (.cells (a.cells kv) 65)
  have HD1 := Lib.hid (h.bel hbw)
  have hkv1 := hkv.below hbw
  have HAft : Hid (∀ s' w2, RStep (w.alloc (.cells (a.cells kv) 65)) b sv wv s' w2 → RStep w b sv wv s' w2) := Lib.hid fun s' w2 hs => hs.after hbw
  have HBx : Hid (Five 65 (w.alloc (.cells (a.cells kv) 65)) w.heap.size (.int .i64 a.kind) (.int .i64 a.at_) (.int .u8 a.fill) (.int .i64 a.size) kv) := Lib.hid (Five.new _ _ _ _ _ _ _)
  have hk0 := ha.k0
  have hk1 := ha.k1
  have ha0 := ha.a0
  have ha1 := ha.a1
  have HBlt : Hid (∀ k, Foot b sv wv k → k < w.heap.size) := Lib.hid fun k hk => h.lt k hk
  have HKF := Lib.hid hkF
  clear hkF
  clear h hbw
  obtain ⟨KA, kc, rfl, hkc, hkr⟩ := hkv
  have HData := Lib.hid fun W => data_any a (.slice KA a.keep.length kc) ⟨_, _, _, rfl⟩ ha W
  clear ha
  obtain ⟨D, hD⟩ : ∃ D, a.data = D := ⟨_, rfl⟩
  have HKv := Lib.hid hkv1
  clear hkv1 hkr
  rw [hD] at HData
  have HAct : Hid (∃ r : St × ByteArray × Int, r = s.act a) := Lib.hid ⟨_, rfl⟩
  obtain ⟨r, hr⟩ := HAct.out
  rw [← hr]
  unfold St.act at hr
  rw [hD] at hr
  clear HAct hD
  obtain ⟨kind, at_, fill, size, keep⟩ := a
  unfold Ac.cells at HD1 HKv HAft HBx HData ⊢
  simp only at hr HD1 HKv HAft HBx HData hk0 hk1 ha0 ha1 hkl hkc ⊢
  by_cases e1 : kind = 1
  · rw [if_pos e1] at hr
    subst e1
    subst hr
    have HW : Hid (∀ W, Below (w.alloc (.cells #[.int .i64 1, .int .i64 at_, .int .u8 fill, .int .i64 size, .slice KA keep.length kc] 65)).heap.size (w.alloc (.cells #[.int .i64 1, .int .i64 at_, .int .u8 fill, .int .i64 size, .slice KA keep.length kc] 65)) W →
        Calls Tryd.prog 92 #[.pointer (some ⟨b, 0, none⟩), .int .i64 at_, .string D] W fun e w' => e = .returned (.int .i64 (s.write at_ D).2) ∧ RStep w b sv wv (s.write at_ D).1 w' ∧
          (w'.cell? ⟨w.heap.size, 0, none⟩ = some (.int .i64 1) ∧ w'.cell? ⟨w.heap.size, 1, none⟩ = some (.int .i64 at_) ∧ w'.cell? ⟨w.heap.size, 2, none⟩ = some (.int .u8 fill) ∧ w'.cell? ⟨w.heap.size, 3, none⟩ = some (.int .i64 size) ∧ w'.cell? ⟨w.heap.size, 4, none⟩ = some (.slice KA keep.length kc))) := Lib.hid fun W hb =>
      (rwrite_any W b s sv wv at_ D (HD1.out.bel hb) hok hleft ha0 ha1).mono fun e w' ⟨he, hs⟩ => ⟨he, HAft.out _ _ (hs.after hb), five_cells ((HBx.out.below hb).block (hs.tou.block _ (by have := hb.size; simp at this; omega) fun hf => by have := HBlt.out _ hf; omega))⟩
    go_enter Tryd.func46, Tryd.ntmps46
    go_wp2
    obtain ⟨W1, hW1⟩ : ∃ W1, w.alloc (.cells #[.int .i64 1, .int .i64 at_, .int .u8 fill, .int .i64 size, .slice KA keep.length kc] 65) = W1 := ⟨_, rfl⟩
    rw [hW1] at HBx HW ⊢
    have hx := five_cells HBx.out
    have hbr := Below.refl W1.heap.size W1
    have HBel : Hid (∀ W, Below W1.heap.size W1 W → (W.cell? ⟨w.heap.size, 0, none⟩ = some (.int .i64 1) ∧ W.cell? ⟨w.heap.size, 1, none⟩ = some (.int .i64 at_) ∧ W.cell? ⟨w.heap.size, 2, none⟩ = some (.int .u8 fill) ∧ W.cell? ⟨w.heap.size, 3, none⟩ = some (.int .i64 size) ∧ W.cell? ⟨w.heap.size, 4, none⟩ = some (.slice KA keep.length kc))) := Lib.hid fun W hb => five_cells (HBx.out.below hb)
    clear hW1
    go_region_held3 (fun W' : World => W'.cell? ⟨w.heap.size, 0, none⟩ = some (.int .i64 1) ∧ W'.cell? ⟨w.heap.size, 1, none⟩ = some (.int .i64 at_) ∧ W'.cell? ⟨w.heap.size, 2, none⟩ = some (.int .u8 fill) ∧ W'.cell? ⟨w.heap.size, 3, none⟩ = some (.int .i64 size) ∧ W'.cell? ⟨w.heap.size, 4, none⟩ = some (.slice KA keep.length kc))
      (first | exact hx | exact y1 | exact y3)
      (first | (go_at_call 44; (with_reducible refine (HData.out _).mono ?_); rintro e w2 ⟨rfl, hb2⟩; have y1 := HBel.out _ (below_dr hb2)) | (go_at_call 92; (with_reducible refine (HW.out _ (below_dr hb2)).mono ?_); rintro e w3 ⟨rfl, hs3, y3⟩))
    all_goals go_wp2
    all_goals go_ret2
    all_goals exact ⟨rfl, hs3⟩
  · rw [if_neg e1] at hr
    have e1B : (kind == 1) = false := by simpa using e1
    by_cases e2 : kind = 2
    · rw [if_pos e2] at hr
      subst e2
      subst hr
      have HW := Lib.hid (rflush_any _ b s sv wv HD1.out hok hleft)
      go_enter Tryd.func46, Tryd.ntmps46
      go_wp2_with (go_at_call 93; (with_reducible refine HW.out.mono ?_); rintro e w3 ⟨rfl, hs3⟩)
      go_ret2
      exact ⟨rfl, HAft.out _ _ hs3⟩
    · rw [if_neg e2] at hr
      have e2B : (kind == 2) = false := by simpa using e2
      by_cases e3 : kind = 3
      · rw [if_pos e3] at hr
        subst e3
        subst hr
        have hx := (five_cells HBx.out).2.1
        have HW : Hid (Calls Tryd.prog 49 #[.pointer (some ⟨b, 0, none⟩), .int .i64 at_] _ fun e w' => e = .returned (.tuple #[]) ∧ RStep _ b sv wv (s.fuse at_) w') := Lib.hid ((rfuse_any _ _ b _ _ _ _ _ at_ HD1.out.five ha0 ha1).mono fun e w' ⟨h1, h2, h3⟩ => ⟨h1, rfuse_step HD1.out h2 h3⟩)
        go_enter Tryd.func46, Tryd.ntmps46
        go_wp2_with (go_at_call 49; (with_reducible refine HW.out.mono ?_); rintro e w3 ⟨rfl, hs3⟩)
        go_ret2
        exact ⟨rfl, HAft.out _ _ hs3⟩
      · rw [if_neg e3] at hr
        have e3B : (kind == 3) = false := by simpa using e3
        by_cases e4 : kind = 4
        · rw [if_pos e4] at hr
          subst e4
          subst hr
          have hx := (five_cells HBx.out).2.1
          have hx4 := (five_cells HBx.out).2.2.2.2
          have HW := Lib.hid (rcrash_any _ b s sv wv _ keep at_ HD1.out hok HKv.out hkl HKF.out ha0 ha1)
          go_enter Tryd.func46, Tryd.ntmps46
          go_wp2_with (go_at_call 94; (with_reducible refine HW.out.mono ?_); rintro e w3 ⟨rfl, hs3⟩)
          go_ret2
          exact ⟨rfl, HAft.out _ _ hs3⟩
        · rw [if_neg e4] at hr
          have e4B : (kind == 4) = false := by simpa using e4
          subst hr
          have hx := (five_cells HBx.out).2.1
          have HW := Lib.hid (rread_any _ b s sv wv at_ HD1.out hok ha0 ha1)
          go_enter Tryd.func46, Tryd.ntmps46
          go_wp2_with (go_at_call 95; (with_reducible refine HW.out.mono ?_); rintro e w3 ⟨rfl, rfl⟩)
          go_ret2
          exact ⟨rfl, HAft.out _ _ HD1.out.same⟩
end Go.Proofs.YtoojdknfommpbaaDoor
