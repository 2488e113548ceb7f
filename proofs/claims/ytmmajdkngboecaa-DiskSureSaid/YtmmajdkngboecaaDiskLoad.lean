/- The walk of the disk's Load. -/
import Derived.Test.YtmmajdkngboecaaDiskNew
namespace Go.Proofs.Ytmmajdkngboecaa
open Go.RowKit
set_option maxRecDepth 10000

def odd128 (s : ByteArray) : Bool := !decide (s.size = 128)
theorem load1_any (s : ByteArray) (w : World) : Calls Try.prog 84 #[.string s] w fun e w' => e = .returned (.bool (odd128 s)) ∧ w = w' := by
  rcases (show s.size = 128 ∨ s.size ≠ 128 by omega) with h | h
  · have E : Hid (odd128 s = false) := Lib.hid (by unfold odd128; rw [decide_eq_true h]; rfl)
    have hI : (s.size : Int) = 128 := by omega
    rw [E.out]
    go_enter Try.func84, Try.ntmps84
    go_wp2
    go_ret
    exact ⟨rfl, rfl⟩
  · have E : Hid (odd128 s = true) := Lib.hid (by unfold odd128; rw [decide_eq_false h]; rfl)
    have hI : ¬ (s.size : Int) = 128 := by omega
    have hJ : ((s.size : Int) != 128) = true := by simp; omega
    rw [E.out]
    go_enter Try.func84, Try.ntmps84
    go_wp2
    go_ret
    exact ⟨rfl, rfl⟩
theorem any_snoc (l : List ByteArray) (k : Nat) (h : k < l.length) : (l.take (k + 1)).any odd128 = ((l.take k).any odd128 || odd128 l[k]) := by
  rw [take_succ' _ _ h, List.any_append]; simp
def IdxPost (w : World) (l : List ByteArray) (e : Ending) (w' : World) : Prop := ∃ r : Int, e = .returned (.int .i64 r) ∧ (0 ≤ r ↔ l.any odd128 = true) ∧ w = w'
theorem index_any (v : Value) (l : List ByteArray) (w : World) (hs : Sl Value.string w v l) (hl : l.length ≤ 1000000) :
    Calls Try.prog 95 #[v, .func (.func 84) #[] #[]] w (IdxPost w l) := by
  obtain ⟨A, c, rfl, hc, hread⟩ := hs
  have HR := Lib.hid hread; clear hread
  have hlI : (l.length : Int) ≤ 1000000 := by omega
  go_enter Try.func95, Try.ntmps95
  go_wp2
  go_loop [8] (fun i => ∃ k : Nat, k ≤ l.length ∧ i = .int .i64 k ∧ Hid ((l.take k).any odd128 = false)) (fun i => l.length - (intOf i).toNat)
  case atStart => exact ⟨0, by omega, rfl, Lib.hid rfl⟩
  case round =>
    obtain ⟨k, hk, rfl, HT⟩ := hrel
    by_cases hlt : k < l.length
    · obtain ⟨a, rfl, hcell⟩ := HR.out k hlt
      have HS := Lib.hid (any_snoc l k hlt)
      have hltI : (k : Int) < (l.length : Int) := by omega
      have HA := Lib.hid (show odd128 l[k] = true → l.any odd128 = true from fun h => List.any_eq_true.2 ⟨_, List.getElem_mem hlt, h⟩)
      generalize l[k] = s at *
      have HC := Lib.hid (fun W => load1_any s W)
      generalize odd128 s = o at *
      cases o
      · go_wp2_with (go_at_call 84; (with_reducible refine (HC.out _).mono ?_); rintro e w' ⟨rfl, rfl⟩)
        go_round
        case measure => simp [intOf]; omega
        case rel => exact ⟨k + 1, by omega, by go_num, Lib.hid (by rw [HS.out, HT.out]; rfl)⟩
      · go_wp2_with (go_at_call 84; (with_reducible refine (HC.out _).mono ?_); rintro e w' ⟨rfl, rfl⟩)
        go_ret
        exact ⟨_, rfl, ⟨fun _ => HA.out (by simp), fun _ => by omega⟩, rfl⟩
    · obtain rfl : k = l.length := by omega
      rw [List.take_length] at HT
      go_wp2
      go_ret
      exact ⟨_, rfl, ⟨fun h => by omega, fun h => by rw [HT.out] at h; cases h⟩, rfl⟩
theorem contains_any (v : Value) (l : List ByteArray) (w : World) (hs : Sl Value.string w v l) (hl : l.length ≤ 1000000) :
    Calls Try.prog 83 #[v, .func (.func 84) #[] #[]] w fun e w' => e = .returned (.bool (l.any odd128)) ∧ w = w' := by
  have HI := Lib.hid (index_any v l w hs hl)
  obtain ⟨A, c, rfl, _⟩ := hs
  go_enter Try.func83, Try.ntmps83
  go_wp2_with (go_at_call 95; (with_reducible refine HI.out.mono ?_); rintro e w' ⟨r, rfl, hr, rfl⟩)
  go_ret
  exact ⟨ret_bool (by rw [Bool.eq_iff_iff]; simp), rfl⟩
def loadSt (l : List ByteArray) : St := { left := 0, done := 0, dead := false, sec := l, waits := [] }
theorem load_bad (v : Value) (l : List ByteArray) (w : World) (hs : Sl Value.string w v l) (h : l.length < 2 ∨ 512 < l.length) : Calls Try.prog 58 #[v] w fun e w' => e = .returned (.tuple #[.pointer none, .int .i64 11]) ∧ w = w' := by
  obtain ⟨A, c, rfl, hc, hread⟩ := hs
  rcases h with h | h
  · have hI : (l.length : Int) < 2 := by omega
    go_enter Try.func58, Try.ntmps58
    go_wp2
    go_ret2
    exact ⟨rfl, rfl⟩
  · have h2 : ¬ (l.length : Int) < 2 := by omega
    have hI : 512 < (l.length : Int) := by omega
    go_enter Try.func58, Try.ntmps58
    go_wp2
    go_ret2
    exact ⟨rfl, rfl⟩
theorem load_odd (v : Value) (l : List ByteArray) (w : World) (hs : Sl Value.string w v l) (h1 : 2 ≤ l.length) (h2 : l.length ≤ 512) (ho : l.any odd128 = true) : Calls Try.prog 58 #[v] w fun e w' => e = .returned (.tuple #[.pointer none, .int .i64 9]) ∧ w = w' := by
  have HC := Lib.hid (contains_any v l w hs (by omega))
  rw [ho] at HC
  obtain ⟨A, c, rfl, hc, hread⟩ := hs
  have h1I : ¬ (l.length : Int) < 2 := by omega
  have h2I : (l.length : Int) ≤ 512 := by omega
  go_enter Try.func58, Try.ntmps58
  go_wp2_with (go_at_call 83; (with_reducible refine HC.out.mono ?_); rintro e w' ⟨rfl, rfl⟩)
  go_ret2
  exact ⟨rfl, rfl⟩
theorem load_any (v : Value) (l : List ByteArray) (w : World) (hs : Sl Value.string w v l) (h1 : 2 ≤ l.length) (h2 : l.length ≤ 512) (ho : l.any odd128 = false) : Calls Try.prog 58 #[v] w (NewDisk w (loadSt l)) := by
  have HC := Lib.hid (contains_any v l w hs (by omega))
  rw [ho] at HC
  obtain ⟨A, c, rfl, hc, hread⟩ := hs
  obtain ⟨a, rfl, _⟩ := hread 0 (by omega)
  have hcl := clone_str w a l.length c l rfl (by omega) (fun j u hj => by
    rw [List.getElem?_map] at hj
    obtain ⟨y, hy, rfl⟩ := Option.map_eq_some_iff.1 hj
    obtain ⟨hjl, rfl⟩ := List.getElem?_eq_some_iff.1 hy
    obtain ⟨a', ha', hcell⟩ := hread j hjl
    cases ha'; exact hcell)
  have HK := Lib.hid hcl
  clear hcl hread
  have h1I : ¬ (l.length : Int) < 2 := by omega
  have h2I : (l.length : Int) ≤ 512 := by omega
  go_enter Try.func58, Try.ntmps58
  go_wp2_with (first | (go_at_call 83; (with_reducible refine HC.out.mono ?_); rintro e w' ⟨rfl, rfl⟩) | (go_at_call 76; (with_reducible refine HK.out.mono ?_); rintro e w2 ⟨v2, rfl, hown, hb2⟩; obtain ⟨A2, c2, rfl, _⟩ := sl_form hown))
  go_ret2
  obtain ⟨k1, k2, k3⟩ := diskAt_made (w := w) (s := loadSt l) rfl rfl rfl rfl (sv := .slice A2 l.length c2) hown hb2
  exact ⟨_, _, _, rfl, k1, k2, k3⟩
theorem loadSt_ok (l : List ByteArray) (k : Nat) (h1 : 2 ≤ l.length) (h2 : l.length ≤ 512) (ho : l.any odd128 = false) : (loadSt l).ok k :=
  ⟨h1, h2, fun x hx => by
    have := List.any_eq_false.1 ho x hx
    unfold odd128 at this; simpa using this, (by intro w hw; cases hw), Nat.zero_le _, Nat.zero_le _⟩
end Go.Proofs.Ytmmajdkngboecaa
