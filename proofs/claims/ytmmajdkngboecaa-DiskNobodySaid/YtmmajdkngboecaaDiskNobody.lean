/- The law DiskNobody: a disk that nobody made. -/
import Derived.Test.YtmmajdkngboecaaDiskBoth
namespace Go.Proofs.Ytmmajdkngboecaa
open Go.RowKit
set_option maxRecDepth 10000

/-- No disk, or one of zeros. -/
def Nob (w : World) (p : Option Addr) : Prop := p = none ∨ ∃ b, p = some ⟨b, 0, none⟩ ∧ Five 85 w b (.int .i64 0) (.int .i64 0) (.bool false) (.slice none 0 0) (.slice none 0 0)
theorem Nob.below {w w1 : World} {p : Option Addr} (h : Nob w p) (hb : Below w.heap.size w w1) : Nob w1 p := by
  rcases h with h | ⟨b, h1, h2⟩
  · exact .inl h
  · exact .inr ⟨b, h1, h2.below hb⟩
theorem given_nob (w : World) (p : Option Addr) (h : Nob w p) : Calls Try.prog 75 #[.pointer p] w fun e w' => e = .returned (.bool false) ∧ w = w' := by
  rcases h with rfl | ⟨b, rfl, h2⟩
  · exact given_nil w
  · exact given_any _ w b _ _ _ _ none 0 0 h2 (by omega)
theorem goes_nob (w : World) (p : Option Addr) (h : Nob w p) : Calls Try.prog 78 #[.pointer p] w fun e w' => e = .returned (.int .i64 1) ∧ w = w' := by
  have G := Lib.hid (given_nob w p h)
  clear h
  go_enter Try.func78, Try.ntmps78
  go_wp2_with (go_at_call 75; (with_reducible refine G.out.mono ?_); rintro e w' ⟨rfl, rfl⟩)
  go_ret
  exact ⟨rfl, rfl⟩
theorem write_nob (w : World) (p : Option Addr) (h : Nob w p) (i : Int) (x : ByteArray) : Calls Try.prog 71 #[.pointer p, .int .i64 i, .string x] w fun e w' => e = .returned (.int .i64 1) ∧ w = w' := by
  have G := Lib.hid (goes_nob w p h)
  clear h
  go_enter Try.func71, Try.ntmps71
  go_wp2_with (go_at_call 78; (with_reducible refine G.out.mono ?_); rintro e w' ⟨rfl, rfl⟩)
  go_ret
  exact ⟨rfl, rfl⟩
theorem flush_nob (w : World) (p : Option Addr) (h : Nob w p) : Calls Try.prog 72 #[.pointer p] w fun e w' => e = .returned (.int .i64 1) ∧ w = w' := by
  have G := Lib.hid (goes_nob w p h)
  clear h
  go_enter Try.func72, Try.ntmps72
  go_wp2_with (go_at_call 78; (with_reducible refine G.out.mono ?_); rintro e w' ⟨rfl, rfl⟩)
  go_ret
  exact ⟨rfl, rfl⟩
theorem read_nob (w : World) (p : Option Addr) (h : Nob w p) (i : Int) : Calls Try.prog 60 #[.pointer p, .int .i64 i] w fun e w' => e = .returned (.tuple #[.string ByteArray.empty, .int .i64 1]) ∧ w = w' := by
  have G := Lib.hid (goes_nob w p h)
  clear h
  go_enter Try.func60, Try.ntmps60
  go_wp2_with (go_at_call 78; (with_reducible refine G.out.mono ?_); rintro e w' ⟨rfl, rfl⟩)
  go_ret2
  exact ⟨rfl, rfl⟩
theorem fuse_nob (w : World) (p : Option Addr) (h : Nob w p) (i : Int) : Calls Try.prog 74 #[.pointer p, .int .i64 i] w fun e w' => e = .returned (.tuple #[]) ∧ w = w' := by
  have G := Lib.hid (given_nob w p h)
  clear h
  go_enter Try.func74, Try.ntmps74
  go_wp2_with (go_at_call 75; (with_reducible refine G.out.mono ?_); rintro e w' ⟨rfl, rfl⟩)
  go_end0
  exact ⟨rfl, rfl⟩
theorem crash_nob (w : World) (p : Option Addr) (h : Nob w p) (kv : Value) (i : Int) : Calls Try.prog 51 #[.pointer p, kv, .int .i64 i] w fun e w' => e = .returned (.int .i64 1) ∧ w = w' := by
  have G := Lib.hid (given_nob w p h)
  clear h
  go_enter Try.func51, Try.ntmps51
  go_wp2_with (go_at_call 75; (with_reducible refine G.out.mono ?_); rintro e w' ⟨rfl, rfl⟩)
  go_ret
  exact ⟨rfl, rfl⟩
theorem dead_nob (w : World) (p : Option Addr) (h : Nob w p) : Calls Try.prog 52 #[.pointer p] w fun e w' => e = .returned (.bool true) ∧ w = w' := by
  have G := Lib.hid (goes_nob w p h)
  clear h
  go_enter Try.func52, Try.ntmps52
  go_wp2_with (go_at_call 78; (with_reducible refine G.out.mono ?_); rintro e w' ⟨rfl, rfl⟩)
  go_ret
  exact ⟨rfl, rfl⟩
theorem size_nob (w : World) (p : Option Addr) (h : Nob w p) : Calls Try.prog 57 #[.pointer p] w fun e w' => e = .returned (.int .i64 0) ∧ w = w' := by
  have G := Lib.hid (given_nob w p h)
  clear h
  go_enter Try.func57, Try.ntmps57
  go_wp2_with (go_at_call 75; (with_reducible refine G.out.mono ?_); rintro e w' ⟨rfl, rfl⟩)
  go_ret
  exact ⟨rfl, rfl⟩
theorem ops_nob (w : World) (p : Option Addr) (h : Nob w p) : Calls Try.prog 55 #[.pointer p] w fun e w' => e = .returned (.int .i64 0) ∧ w = w' := by
  have G := Lib.hid (given_nob w p h)
  clear h
  go_enter Try.func55, Try.ntmps55
  go_wp2_with (go_at_call 75; (with_reducible refine G.out.mono ?_); rintro e w' ⟨rfl, rfl⟩)
  go_ret
  exact ⟨rfl, rfl⟩
theorem sectors_nob (w : World) (p : Option Addr) (h : Nob w p) : Calls Try.prog 49 #[.pointer p] w fun e w' => e = .returned (.slice none 0 0) ∧ w = w' := by
  have G := Lib.hid (given_nob w p h)
  clear h
  go_enter Try.func49, Try.ntmps49
  go_wp2_with (go_at_call 75; (with_reducible refine G.out.mono ?_); rintro e w' ⟨rfl, rfl⟩)
  go_ret
  exact ⟨rfl, rfl⟩
theorem waits_nob (w : World) (p : Option Addr) (h : Nob w p) : Calls Try.prog 50 #[.pointer p] w fun e w' => e = .returned (.slice none 0 0) ∧ w = w' := by
  have G := Lib.hid (given_nob w p h)
  clear h
  go_enter Try.func50, Try.ntmps50
  go_wp2_with (go_at_call 75; (with_reducible refine G.out.mono ?_); rintro e w' ⟨rfl, rfl⟩)
  go_ret
  exact ⟨rfl, rfl⟩
/-- What an act tells of no disk. -/
def nobE (kind : Int) : Int := if kind = 3 then 0 else 1
set_option maxHeartbeats 2000000 in
theorem do_nob (w : World) (p : Option Addr) (a : Ac) (kv : Value) (h : Nob w p) (ha : a.ok) (hkv : Sl Value.bool w kv a.keep) :
    Calls Try.prog 48 #[.pointer p, .agg #[.int .i64 a.kind, .int .i64 a.at_, .int .u8 a.fill, .int .i64 a.size, kv]] w fun e w' => e = .returned (.tuple #[.string ByteArray.empty, .int .i64 (nobE a.kind)]) ∧ Below w.heap.size w w' := by
  have hbw := below_new w (.cells #[.int .i64 a.kind, .int .i64 a.at_, .int .u8 a.fill, .int .i64 a.size, kv] 65)
  have HNb : Hid (∀ W, Below (w.alloc (.cells #[.int .i64 a.kind, .int .i64 a.at_, .int .u8 a.fill, .int .i64 a.size, kv] 65)).heap.size (w.alloc (.cells #[.int .i64 a.kind, .int .i64 a.at_, .int .u8 a.fill, .int .i64 a.size, kv] 65)) W → Nob W p) := Lib.hid fun W hb => (h.below hbw).below hb
  have HBx : Hid (Five 65 (w.alloc (.cells #[.int .i64 a.kind, .int .i64 a.at_, .int .u8 a.fill, .int .i64 a.size, kv] 65)) w.heap.size (.int .i64 a.kind) (.int .i64 a.at_) (.int .u8 a.fill) (.int .i64 a.size) kv) := Lib.hid (Five.new _ _ _ _ _ _ _)
  have HBw := Lib.hid hbw
  obtain ⟨KA, kc, rfl, hkc, hkr⟩ := hkv
  have HData := Lib.hid fun W => data_any a (.slice KA a.keep.length kc) ⟨_, _, _, rfl⟩ ha W
  clear ha h hbw hkr
  obtain ⟨D, hD⟩ : ∃ D, a.data = D := ⟨_, rfl⟩
  rw [hD] at HData
  clear hD
  obtain ⟨kind, at_, fill, size, keep⟩ := a
  unfold Ac.cells at HData
  simp only at HNb HBx HData HBw hkc ⊢
  by_cases e1 : kind = 1
  · subst e1
    rw [show nobE 1 = 1 from rfl]
    go_enter Try.func48, Try.ntmps48
    go_wp2
    obtain ⟨W1, hW1⟩ : ∃ W1, w.alloc (.cells #[.int .i64 1, .int .i64 at_, .int .u8 fill, .int .i64 size, .slice KA keep.length kc] 65) = W1 := ⟨_, rfl⟩
    rw [hW1] at HBx HNb HBw ⊢
    have hx := five_cells HBx.out
    have HBel : Hid (∀ W, Below W1.heap.size W1 W → (W.cell? ⟨w.heap.size, 0, none⟩ = some (.int .i64 1) ∧ W.cell? ⟨w.heap.size, 1, none⟩ = some (.int .i64 at_) ∧ W.cell? ⟨w.heap.size, 2, none⟩ = some (.int .u8 fill) ∧ W.cell? ⟨w.heap.size, 3, none⟩ = some (.int .i64 size) ∧ W.cell? ⟨w.heap.size, 4, none⟩ = some (.slice KA keep.length kc))) := Lib.hid fun W hb => five_cells (HBx.out.below hb)
    clear hW1
    go_region_held3 (fun W' : World => W'.cell? ⟨w.heap.size, 0, none⟩ = some (.int .i64 1) ∧ W'.cell? ⟨w.heap.size, 1, none⟩ = some (.int .i64 at_) ∧ W'.cell? ⟨w.heap.size, 2, none⟩ = some (.int .u8 fill) ∧ W'.cell? ⟨w.heap.size, 3, none⟩ = some (.int .i64 size) ∧ W'.cell? ⟨w.heap.size, 4, none⟩ = some (.slice KA keep.length kc))
      (first | exact hx | exact y1)
      (first | (go_at_call 70; (with_reducible refine (HData.out _).mono ?_); rintro e w2 ⟨rfl, hb2⟩; have y1 := HBel.out _ (below_dr hb2)) | (go_at_call 71; (with_reducible refine (write_nob w2 p (HNb.out w2 (below_dr hb2)) _ _).mono ?_); rintro e w3 ⟨rfl, rfl⟩))
    all_goals go_wp2
    all_goals go_ret2
    all_goals exact ⟨rfl, below_next HBw.out (below_dr hb2)⟩
  · have e1B : (kind == 1) = false := by simpa using e1
    have hNb := HNb.out _ (Below.refl _ _)
    have hx1 := (five_cells HBx.out).2.1
    have hx4 := (five_cells HBx.out).2.2.2.2
    by_cases e2 : kind = 2
    · subst e2
      rw [show nobE 2 = 1 from rfl]
      have HW := Lib.hid (flush_nob _ p hNb)
      go_enter Try.func48, Try.ntmps48
      go_wp2_with (go_at_call 72; (with_reducible refine HW.out.mono ?_); rintro e w3 ⟨rfl, rfl⟩)
      go_ret2
      exact ⟨rfl, HBw.out⟩
    · have e2B : (kind == 2) = false := by simpa using e2
      by_cases e3 : kind = 3
      · subst e3
        rw [show nobE 3 = 0 from rfl]
        have HW := Lib.hid (fuse_nob _ p hNb at_)
        go_enter Try.func48, Try.ntmps48
        go_wp2_with (go_at_call 74; (with_reducible refine HW.out.mono ?_); rintro e w3 ⟨rfl, rfl⟩)
        go_ret2
        exact ⟨rfl, HBw.out⟩
      · have e3B : (kind == 3) = false := by simpa using e3
        rw [show nobE kind = 1 by unfold nobE; rw [if_neg e3]]
        by_cases e4 : kind = 4
        · subst e4
          have HW := Lib.hid (crash_nob _ p hNb (.slice KA keep.length kc) at_)
          go_enter Try.func48, Try.ntmps48
          go_wp2_with (go_at_call 51; (with_reducible refine HW.out.mono ?_); rintro e w3 ⟨rfl, rfl⟩)
          go_ret2
          exact ⟨rfl, HBw.out⟩
        · have e4B : (kind == 4) = false := by simpa using e4
          have HW := Lib.hid (read_nob _ p hNb at_)
          go_enter Try.func48, Try.ntmps48
          go_wp2_with (go_at_call 60; (with_reducible refine HW.out.mono ?_); rintro e w3 ⟨rfl, rfl⟩)
          go_ret2
          exact ⟨rfl, HBw.out⟩
set_option maxHeartbeats 4000000 in
theorem diskNobody_walk (v : Value) (a : Ac) (w : World) (hl : (∃ kv, v = .agg (a.cells kv) ∧ Sl Value.bool w kv a.keep) ∧ a.ok ∧ a.keep.length ≤ maxLen) :
    Calls Try.prog 14 #[v] w fun e w' => e = .returned (.bool true) ∧ Below w.heap.size w w' := by
  obtain ⟨⟨kv, rfl, hkv⟩, ha, hkm⟩ := hl
  unfold maxLen at hkm
  have HAw := Lib.hid awake_any
  have HKv := Lib.hid hkv
  obtain ⟨KA, kc, rfl, _⟩ := hkv
  have HA := Lib.hid ha
  have hkI : (a.keep.length : Int) ≤ 9223372036854775807 := by omega
  unfold Ac.cells
  have hx := (Five.new 65 w (.int .i64 a.kind) (.int .i64 a.at_) (.int .u8 a.fill) (.int .i64 a.size) (.slice KA a.keep.length kc)).c4
  by_cases h100 : 100 < a.keep.length
  · have h100I : 100 < (a.keep.length : Int) := by omega
    go_enter Try.func14, Try.ntmps14
    go_wp2_with (go_at_call 47; (with_reducible refine (HAw.out _).mono ?_); rintro e w2 ⟨rfl, hb2⟩)
    go_ret
    exact ⟨rfl, below_next (below_new w _) hb2⟩
  · have h100I : (a.keep.length : Int) ≤ 100 := by omega
    go_enter Try.func14, Try.ntmps14
    go_wp2
    obtain ⟨W0, hW0⟩ : ∃ W0, ((w.alloc (.cells #[.int .i64 a.kind, .int .i64 a.at_, .int .u8 a.fill, .int .i64 a.size, .slice KA a.keep.length kc] 65)).alloc (.cells #[.int .i64 0, .int .i64 0, .bool false, .slice none 0 0, .slice none 0 0] 85)).alloc (.cells #[.pointer none, .pointer (some ⟨w.heap.size + 1, 0, none⟩)] 59) = W0 := ⟨_, rfl⟩
    have HB0 : Hid (Below w.heap.size w W0) := Lib.hid (by rw [← hW0]; exact below_alloc (below_alloc (below_new w _) _) _)
    have HX0 : Hid (Five 65 W0 w.heap.size (.int .i64 a.kind) (.int .i64 a.at_) (.int .u8 a.fill) (.int .i64 a.size) (.slice KA a.keep.length kc)) := Lib.hid (by rw [← hW0]; exact ((Five.new _ _ _ _ _ _ _).alloc _).alloc _)
    have HL0 : Hid (∀ k, k < 2 → ∃ p, Nob W0 p ∧ W0.cell? ⟨w.heap.size + 1 + 1, k, none⟩ = some (.pointer p)) := Lib.hid fun k hk => by
      rw [← hW0]
      have hsz : ((w.alloc (.cells #[.int .i64 a.kind, .int .i64 a.at_, .int .u8 a.fill, .int .i64 a.size, .slice KA a.keep.length kc] 65)).alloc (.cells #[.int .i64 0, .int .i64 0, .bool false, .slice none 0 0, .slice none 0 0] 85)).heap.size = w.heap.size + 1 + 1 := by simp
      rcases (show k = 0 ∨ k = 1 by omega) with rfl | rfl
      · refine ⟨none, .inl rfl, ?_⟩
        rw [← hsz, World.cell?_alloc_new]; rfl
      · refine ⟨some ⟨w.heap.size + 1, 0, none⟩, .inr ⟨w.heap.size + 1, rfl, ?_⟩, ?_⟩
        · have := Five.new 85 (w.alloc (.cells #[.int .i64 a.kind, .int .i64 a.at_, .int .u8 a.fill, .int .i64 a.size, .slice KA a.keep.length kc] 65)) (.int .i64 0) (.int .i64 0) (.bool false) (.slice none 0 0) (.slice none 0 0)
          rw [World.size_alloc] at this
          exact this.alloc _
        · rw [← hsz, World.cell?_alloc_new]; rfl
    rw [hW0]
    clear hW0 hx
    go_loopw [4] (fun i W => ∃ k : Nat, k ≤ 2 ∧ i = .int .i64 k ∧ Hid (Below W0.heap.size W0 W)) (fun i _ => 2 - (intOf i).toNat)
    case atStart => exact ⟨0, by omega, rfl, Lib.hid (Below.refl _ _)⟩
    case round =>
      obtain ⟨k, hk, rfl, HI⟩ := hrel
      by_cases hlt : k < 2
      · have hltI : (k : Int) < 2 := by omega
        obtain ⟨p, hp, hcp⟩ := HL0.out k hlt
        have HXB : Hid (∀ W, Below wr.heap.size wr W → W.cell? ⟨w.heap.size + 1 + 1, k, none⟩ = some (.pointer p) ∧ W.cell? ⟨w.heap.size, 0, none⟩ = some (.int .i64 a.kind) ∧ W.cell? ⟨w.heap.size, 1, none⟩ = some (.int .i64 a.at_) ∧ W.cell? ⟨w.heap.size, 2, none⟩ = some (.int .u8 a.fill) ∧ W.cell? ⟨w.heap.size, 3, none⟩ = some (.int .i64 a.size) ∧ W.cell? ⟨w.heap.size, 4, none⟩ = some (.slice KA a.keep.length kc)) := Lib.hid fun W hb =>
          ⟨cell_below (below_next HI.out hb) hcp, five_cells (HX0.out.below (below_next HI.out hb))⟩
        have HNb : Hid (∀ W, Below wr.heap.size wr W → Nob W p) := Lib.hid fun W hb => hp.below (below_next HI.out hb)
        have HDo : Hid (∀ W, Below wr.heap.size wr W → Calls Try.prog 48 #[.pointer p, .agg #[.int .i64 a.kind, .int .i64 a.at_, .int .u8 a.fill, .int .i64 a.size, .slice KA a.keep.length kc]] W fun e w' => e = .returned (.tuple #[.string ByteArray.empty, .int .i64 (nobE a.kind)]) ∧ Below W.heap.size W w') := Lib.hid fun W hb =>
          do_nob W p a _ (HNb.out W hb) HA.out (HKv.out.below (HB0.out.trans ((below_next HI.out hb).mono HB0.out.size)))
        have hx := HXB.out _ (Below.refl _ _)
        have hbr : Below wr.heap.size wr wr.drew := (Below.refl wr.heap.size wr).drew
        have hkd : a.kind = 3 ∧ nobE a.kind = 0 ∨ a.kind ≠ 3 ∧ nobE a.kind = 1 := by
          unfold nobE
          by_cases h : a.kind = 3
          · exact .inl ⟨h, if_pos h⟩
          · exact .inr ⟨h, if_neg h⟩
        obtain ⟨ne, hne⟩ : ∃ ne, nobE a.kind = ne := ⟨_, rfl⟩
        rw [hne] at HDo hkd
        obtain ⟨E, hE⟩ : ∃ E, ByteArray.empty = E := ⟨_, rfl⟩
        rw [hE] at HDo
        have hE1 : (!E.toList.isEmpty) = false := by rw [← hE, ByteArray.toList_eq]; rfl
        clear hne hp hcp hE
        go_wp2
        go_region_held3 (fun W' : World => W'.cell? ⟨w.heap.size + 1 + 1, k, none⟩ = some (.pointer p) ∧ W'.cell? ⟨w.heap.size, 0, none⟩ = some (.int .i64 a.kind) ∧ W'.cell? ⟨w.heap.size, 1, none⟩ = some (.int .i64 a.at_) ∧ W'.cell? ⟨w.heap.size, 2, none⟩ = some (.int .u8 a.fill) ∧ W'.cell? ⟨w.heap.size, 3, none⟩ = some (.int .i64 a.size) ∧ W'.cell? ⟨w.heap.size, 4, none⟩ = some (.slice KA a.keep.length kc))
          (first | exact hx | exact y1)
          (first | (go_at_call 48; (with_reducible refine (HDo.out _ hbr).mono ?_); rintro e w2 ⟨rfl, hb2⟩; have y1 := HXB.out _ (below_dr hb2)))
        go_wp2
        have hb2' := below_dr hb2
        have hx2 : w2.cell? ⟨w.heap.size + 1 + 1, k, none⟩ = some (.pointer p) ∧ w2.cell? ⟨w.heap.size, 0, none⟩ = some (.int .i64 a.kind) := ⟨y1.1, y1.2.1⟩
        have hN := fun n => HNb.out (w2.drewN n) (below_drewN hb2' n)
        have HD1 := Lib.hid fun n => dead_nob _ p (hN n)
        have HD2 := Lib.hid fun n => size_nob _ p (hN n)
        have HD3 := Lib.hid fun n => ops_nob _ p (hN n)
        have HD4 := Lib.hid fun n => sectors_nob _ p (hN n)
        have HD5 := Lib.hid fun n => waits_nob _ p (hN n)
        obtain ⟨c1, c2⟩ := hx2
        clear hx y1 hN HDo
        rcases hkd with ⟨h3, rfl⟩ | ⟨h3, rfl⟩
        · rw [h3] at c2
          go_quiet (first | (go_at_call 52; exact (HD1.out _).mono fun e w' ⟨he, hw⟩ => ⟨he, _, hw.symm⟩) | (go_at_call 57; exact (HD2.out _).mono fun e w' ⟨he, hw⟩ => ⟨he, _, hw.symm⟩) | (go_at_call 55; exact (HD3.out _).mono fun e w' ⟨he, hw⟩ => ⟨he, _, hw.symm⟩) | (go_at_call 49; exact (HD4.out _).mono fun e w' ⟨he, hw⟩ => ⟨he, _, hw.symm⟩) | (go_at_call 50; exact (HD5.out _).mono fun e w' ⟨he, hw⟩ => ⟨he, _, hw.symm⟩))
          go_wp2
          go_roundw
          case measure => simp [intOf]; omega
          case rel => exact ⟨k + 1, by omega, by go_num, Lib.hid (below_drewN (below_next HI.out hb2') _)⟩
        · go_quiet (first | (go_at_call 52; exact (HD1.out _).mono fun e w' ⟨he, hw⟩ => ⟨he, _, hw.symm⟩) | (go_at_call 57; exact (HD2.out _).mono fun e w' ⟨he, hw⟩ => ⟨he, _, hw.symm⟩) | (go_at_call 55; exact (HD3.out _).mono fun e w' ⟨he, hw⟩ => ⟨he, _, hw.symm⟩) | (go_at_call 49; exact (HD4.out _).mono fun e w' ⟨he, hw⟩ => ⟨he, _, hw.symm⟩) | (go_at_call 50; exact (HD5.out _).mono fun e w' ⟨he, hw⟩ => ⟨he, _, hw.symm⟩))
          go_wp2
          go_roundw
          case measure => simp [intOf]; omega
          case rel => exact ⟨k + 1, by omega, by go_num, Lib.hid (below_drewN (below_next HI.out hb2') _)⟩
      · obtain rfl : k = 2 := by omega
        go_wp2_with (go_at_call 47; (with_reducible refine (HAw.out _).mono ?_); rintro e w2 ⟨rfl, hb2⟩)
        go_ret
        exact ⟨rfl, HB0.out.trans ((below_next HI.out hb2).mono HB0.out.size)⟩
end Go.Proofs.Ytmmajdkngboecaa
