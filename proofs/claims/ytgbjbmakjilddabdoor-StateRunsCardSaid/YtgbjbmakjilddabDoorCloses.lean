/- StateCloses by its walk, over this seat's translation: the parts. -/
import Derived.Test.YtgbjbmakjilddabDoorEvents
import Derived.Test.YtgbjbmakjilddabDoorRef
import Derived.Test.YtgbjbmakjilddabDoorLaid
namespace Go.Proofs.YtgbjbmakjilddabDoor.St
open Go.ChangeShapes Go.WideShapes Go.ChangeAt Go.RowKit
theorem ref_ok {s e : Int} (h : onE s e = 0) (w : World) : Calls Tryd.prog 9 #[.int .i64 s, .int .i64 e] w fun x w' => x = .returned (.tuple #[.int .i64 (onV s e), .int .i64 0]) ∧ w = w' := by
  have := ref_any s e w; rw [h] at this; exact this
theorem ref_bad {s e : Int} {c : Int} (h : onE s e = c) (hc : ¬ c = 0) (w : World) : Calls Tryd.prog 9 #[.int .i64 s, .int .i64 e] w fun x w' => x = .returned (.tuple #[.int .i64 0, .int .i64 c]) ∧ w = w' := by
  have := ref_any s e w; rw [onV, h, if_neg hc] at this; exact this
theorem code_rows : ∀ s : Fin 8, ∀ e : Fin 10, onE (s.val : Int) (e.val : Int) = 0 → (0 ≤ onV (s.val : Int) (e.val : Int) ∧ onV (s.val : Int) (e.val : Int) < 8 ∧ (4 ≤ (s.val : Int) → onV (s.val : Int) (e.val : Int) = 0 ∨ 4 ≤ onV (s.val : Int) (e.val : Int))) := by decide +kernel
theorem on_range {s e : Int} (h : onE s e = 0) : 0 ≤ onV s e ∧ onV s e < 8 ∧ (4 ≤ s → onV s e = 0 ∨ 4 ≤ onV s e) := by
  have hr : 0 ≤ s ∧ s < 8 ∧ 0 ≤ e ∧ e < 10 := by
    by_cases hr : 0 ≤ s ∧ s < 8 ∧ 0 ≤ e ∧ e < 10
    · exact hr
    · have := (on_out_val s e hr).1; omega
  obtain ⟨a, rfl⟩ := Int.eq_ofNat_of_zero_le hr.1
  obtain ⟨b, rfl⟩ := Int.eq_ofNat_of_zero_le hr.2.2.1
  exact code_rows ⟨a, by omega⟩ ⟨b, by omega⟩ h
theorem last_ok : ∀ s : Fin 8, s.val ≠ 0 → onE (s.val : Int) 9 = 0 := by decide +kernel
/-- What came in as a row of ints, as a loop reads it. -/
theorem lt_of_cell {w : World} {b o : Nat} {v : Value} (h : w.cell? ⟨b, o, none⟩ = some v) : b < w.heap.size := by
  by_cases hb : b < w.heap.size
  · exact hb
  · exfalso
    simp [World.cell?, Array.getElem?_eq_none (show w.heap.size ≤ b by omega)] at h
theorem ints_of_row {w : World} {a : Option Addr} {len cap : Nat} {zs : List Int} (h : Laid.IsRow .i64 w a len cap zs) : ∃ l : List Int, l.length = len ∧ len ≤ maxLen ∧ (l = [] ∨ ∃ b o, a = some ⟨b, o, none⟩ ∧ b < w.heap.size ∧ ∀ j, j < l.length → w.cell? ⟨b, o + j, none⟩ = some (.int .i64 (l[j]?.getD 0))) := by
  rcases h with ⟨rfl, rfl, rfl, rfl⟩ | ⟨x, rfl, hl, hm, hz, hc, _⟩
  · exact ⟨[], rfl, by simp, .inl rfl⟩
  · refine ⟨zs.take len, by simp; omega, by omega, ?_⟩
    by_cases h0 : len = 0
    · left; simp [h0]
    · right
      obtain ⟨b, o, s⟩ := x
      have h1 := hc 0 (by omega)
      have e : s = none := by simpa [Addr.add] using World.cell?_spot h1
      subst e
      refine ⟨b, o, rfl, by rw [add_plain] at h1; exact lt_of_cell h1, fun j hj => ?_⟩
      have hj' : j < len := by simp at hj; omega
      have h2 := hc j (by omega)
      rw [add_plain] at h2
      rw [List.getElem?_take_of_lt hj']
      simpa using h2
theorem closes_long (s : Int) (a : Option Addr) (len cap : Nat) (h : 100 < len) (hm : len ≤ maxLen) (w : World) (ht0 : TabNow w) :
    Calls Tryd.prog 4 #[.int .i64 s, .slice a len cap] w fun x w' => x = .returned (.bool true) ∧ Below w.heap.size w w' := by
  have ht := hid ht0
  clear ht0
  unfold maxLen at hm
  go_enter Tryd.func4, Tryd.ntmps4
  go_wp2_with (first
    | (go_at_call 8; refine (alive_b ht).mono ?_; rintro x w1 ⟨rfl, hb1⟩))
  go_ret
  exact ⟨rfl, hb1.out⟩
theorem closes_out (s : Int) (hs : (nmB s).toList.isEmpty = true) (a : Option Addr) (len cap : Nat) (h : len ≤ 100) (w : World) (ht0 : TabNow w) :
    Calls Tryd.prog 4 #[.int .i64 s, .slice a len cap] w fun x w' => x = .returned (.bool true) ∧ Below w.heap.size w w' := by
  have ht := hid ht0
  clear ht0
  go_enter Tryd.func4, Tryd.ntmps4
  go_wp2_with (first
    | (go_at_call 8; refine (alive_b ht).mono ?_; rintro x w1 ⟨rfl, hb1⟩)
    | (go_at_call 11; refine (string_b ht _ _ (by assumption)).mono ?_; rintro e w1 ⟨rfl, hb1⟩))
  go_ret
  exact ⟨rfl, Hid.out (by assumption)⟩
set_option maxHeartbeats 1600000 in
theorem closes_in (s : Int) (hs0 : 0 ≤ s) (hs1 : s < 8) (hs : (nmB s).toList.isEmpty = false) (a : Option Addr) (len cap : Nat) (h : len ≤ 100) (l : List Int) (hl : l.length = len) (w : World)
    (hrow : l = [] ∨ ∃ b o, a = some ⟨b, o, none⟩ ∧ b < w.heap.size ∧ ∀ j, j < l.length → w.cell? ⟨b, o + j, none⟩ = some (.int .i64 (l[j]?.getD 0))) (ht0 : TabNow w) :
    Calls Tryd.prog 4 #[.int .i64 s, .slice a len cap] w fun x w' => x = .returned (.bool true) ∧ Below w.heap.size w w' := by
  have ht := hid ht0
  have HR := hid hrow
  have HL := hid hl
  clear ht0 hrow hl
  go_enter Tryd.func4, Tryd.ntmps4
  go_wp2_with (first
    | (go_at_call 8; refine (alive_b ht).mono ?_; rintro x w1 ⟨rfl, hb1⟩)
    | (go_at_call 11; refine (string_b ht _ _ (by assumption)).mono ?_; rintro e w2 ⟨rfl, hb2⟩))
  clear hb1
  go_loop [5, 6, 28] (fun x v i => ∃ (k : Nat) (c : Int), k ≤ len ∧ i = .int .i64 k ∧ x = .int .i64 c ∧ v = .bool (decide (4 ≤ c)) ∧ 0 ≤ c ∧ c < 8) (fun _ _ i => len - (intOf i).toNat)
  case atStart => exact ⟨0, s, Nat.zero_le _, rfl, rfl, rfl, hs0, hs1⟩
  case round =>
    obtain ⟨k, c, hk, rfl, rfl, rfl, hc0, hc1⟩ := hrel
    by_cases hlt : k < len
    · have hkl : k < l.length := by rw [HL.out]; exact hlt
      rcases HR.out with h | ⟨b, o, rfl, hbw, hcell0⟩
      · exfalso; rw [h] at hkl; simp at hkl
      have hcell : w2.cell? ⟨b, o + k, none⟩ = some (.int .i64 (l[k]?.getD 0)) := (hb2.out.cell (p := ⟨b, o + k, none⟩) hbw).trans (hcell0 k hkl)
      clear hcell0 hbw hkl
      generalize l[k]?.getD 0 = e at hcell
      by_cases hz : onE c e = 0
      · have HZ := hid hz
        obtain ⟨r0, r1, r2⟩ := on_range hz
        clear hz
        by_cases q0 : onV c e = 0
        · have Q0 := hid q0
          have hok : Calls Tryd.prog 12 #[.int .i64 c, .int .i64 e] w2 fun x w' => x = .returned (.tuple #[.int .i64 0, .nilIface]) ∧ w2 = w' := by
            have := on_ok c e w2 HZ.out; rw [Q0.out] at this; exact this
          clear q0 r0 r1 r2
          go_wp2_with (go_at_call 12; refine hok.mono ?_; rintro x w' ⟨rfl, rfl⟩)
          go_round
          case rel => exact ⟨k + 1, 0, by omega, by go_num, rfl, rfl, by omega, by omega⟩
          case measure => simp [intOf]; omega
        · by_cases q4 : 4 ≤ onV c e
          · have hok : Calls Tryd.prog 12 #[.int .i64 c, .int .i64 e] w2 fun x w' => x = .returned (.tuple #[.int .i64 (onV c e), .nilIface]) ∧ w2 = w' := on_ok c e w2 HZ.out
            clear r2 HZ
            generalize onV c e = d at *
            go_wp2_with (go_at_call 12; refine hok.mono ?_; rintro x w' ⟨rfl, rfl⟩)
            go_round
            case rel => exact ⟨k + 1, d, by omega, by go_num, rfl, by simp [q4], by omega, by omega⟩
            case measure => simp [intOf]; omega
          · have c4 : decide (4 ≤ c) = false := by simp; omega
            have hok : Calls Tryd.prog 12 #[.int .i64 c, .int .i64 e] w2 fun x w' => x = .returned (.tuple #[.int .i64 (onV c e), .nilIface]) ∧ w2 = w' := on_ok c e w2 HZ.out
            clear r2 HZ
            generalize onV c e = d at *
            have d4 : decide (4 ≤ d) = false := by simp; omega
            go_wp2_with (go_at_call 12; refine hok.mono ?_; rintro x w' ⟨rfl, rfl⟩)
            go_round
            case rel => exact ⟨k + 1, d, by omega, by go_num, rfl, by rw [d4], by omega, by omega⟩
            case measure => simp [intOf]; omega
      · have HZ := hid hz
        clear hz
        go_wp2_with (go_at_call 12; refine (on_bad _ _ _ HZ.out).mono ?_; rintro x w' ⟨rfl, rfl⟩)
        go_round
        case rel => exact ⟨k + 1, c, by omega, by go_num, rfl, rfl, hc0, hc1⟩
        case measure => simp [intOf]; omega
    · by_cases q0 : c = 0
      · subst q0
        have hbad : ¬ onE 0 9 = 0 := by decide +kernel
        have HZ := hid hbad
        clear hbad
        go_wp2_with (go_at_call 12; refine (on_bad _ _ _ HZ.out).mono ?_; rintro x w' ⟨rfl, rfl⟩)
        go_ret
        exact ⟨rfl, hb2.out⟩
      · have hgood : onE c 9 = 0 := by
          obtain ⟨m, rfl⟩ := Int.eq_ofNat_of_zero_le hc0
          exact last_ok ⟨m, by omega⟩ (by simpa using q0)
        have HZ := hid hgood
        clear hgood
        go_wp2_with (go_at_call 12; refine (on_ok _ _ _ HZ.out).mono ?_; rintro x w' ⟨rfl, rfl⟩)
        go_ret
        exact ⟨rfl, hb2.out⟩
theorem closesW (s : Int) (_ : (Lit.int .i64 s).wf = true) (a : Option Addr) (len cap : Nat) (zs : List Int) {w0 : World} (hz : Laid.IsRow .i64 w0 a len cap zs) (w : World) (ht : TabNow w) (e : w0 = w := by rfl) :
    Calls Tryd.prog 4 #[.int .i64 s, .slice a len cap] w fun e w' => e = .returned (.bool true) ∧ Below w.heap.size w w' := by
  subst e
  obtain ⟨l, hl, hm, hr⟩ := ints_of_row hz
  by_cases h : 100 < len
  · exact closes_long s a len cap h hm w0 ht
  · by_cases hs : (nmB s).toList.isEmpty = true
    · exact closes_out s hs a len cap (by omega) w0 ht
    · have hs' : (nmB s).toList.isEmpty = false := by simpa using hs
      obtain ⟨s0, s1⟩ := nm_in s hs'
      exact closes_in s s0 s1 hs' a len cap (by omega) l hl w0 hr ht
end Go.Proofs.YtgbjbmakjilddabDoor.St
