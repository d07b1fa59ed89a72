/- StateNames by its walk, over this seat's translation: the parts. -/
import Derived.Test.YtgbjbmakjilddabDoorName
import Derived.Test.YtgbjbmakjilddabDoorEvs
import Derived.Test.YtgbjbmakjilddabDoorInts
namespace Go.Proofs.YtgbjbmakjilddabDoor.St
open Go.ChangeShapes Go.WideShapes Go.ChangeAt Go.RowKit
theorem alive_b {W : World} (ht : Hid (TabNow W)) : Calls Tryd.prog 8 #[] W fun e w' => e = .returned (.bool true) ∧ Hid (Below W.heap.size W w') := alive W ht.out
theorem string_b {W : World} (ht : Hid (TabNow W)) (s : Int) (w1 : World) (h : Hid (Below W.heap.size W w1)) : Calls Tryd.prog 11 #[.int .i64 s] w1 fun e w' => e = .returned (.string (nmB s)) ∧ Hid (Below W.heap.size W w') := by
  by_cases hs : 0 ≤ s ∧ s < 8
  · exact (string_yes s w1 hs.1 hs.2 (tab_later ht.out h.out)).mono fun _ _ hh => ⟨hh.1, hid (h.out.trans (hh.2.mono h.out.size))⟩
  · exact (string_no s w1 (by omega)).mono fun _ _ hh => ⟨hh.1, hh.2 ▸ h⟩
theorem name_b {W : World} (s : Int) (w1 : World) (h : Hid (Below W.heap.size W w1)) : Calls Tryd.prog 15 #[.int .i64 s] w1 fun e w' => e = .returned (.string (nmB s)) ∧ Hid (Below W.heap.size W w') :=
  (name_any s w1).mono fun _ _ hh => ⟨hh.1, hid (h.out.trans (hh.2.mono h.out.size))⟩
/-- The events of s lie behind a. -/
def EvsAt (w : World) (a : Option Addr) (s : Int) : Prop := Num.IntsAt w a (evs s 10)
theorem intsAt_of_row {w : World} {base : Nat} {e : TypeId} {a : Option Addr} {n m c : Nat} {xs : List Int} (h : w.ownsRow base e 1 (.slice a n c) m (xs.map (Value.int .i64))) : Num.IntsAt w a xs := by
  rcases h with ⟨hl, ⟨he, h⟩ | ⟨g, cap', cur, he, hr⟩⟩
  · left
    subst h
    simpa using hl
  · right
    simp only [Value.slice.injEq] at he
    obtain ⟨rfl, rfl, rfl⟩ := he
    refine ⟨g, 0, rfl, fun j hj => ?_⟩
    have hx : (xs.map (Value.int .i64))[j]? = some (.int .i64 (xs[j]?.getD 0)) := by simp [hj]
    have := World.ownsRow.cells (w := w) (base := base) (e := e) (size := 1) ⟨hl, .inr ⟨g, c, cur, rfl, hr⟩⟩ (g := g) rfl j _ hx
    rw [add_plain] at this
    exact this
theorem events_b {W : World} (s : Int) (w1 : World) (h : Hid (Below W.heap.size W w1)) : Calls Tryd.prog 13 #[.int .i64 s] w1 fun e w' => ∃ a c, e = .returned (.slice a (evs s 10).length c) ∧ Hid (EvsAt w' a s) ∧ Hid (Below W.heap.size W w') := by
  refine (events s w1).mono ?_
  rintro e w' ⟨v, rfl, hown, hb⟩
  obtain ⟨a, c, rfl⟩ := slice_of_row hown
  exact ⟨a, c, rfl, hid (intsAt_of_row hown), hid (h.out.trans (hb.mono h.out.size))⟩
theorem accepts_v {s : Int} {v : Bool} (h : Hid (decide (s = 3) = v)) (w : World) : Calls Tryd.prog 16 #[.int .i64 s] w fun e w' => e = .returned (.bool v) ∧ w = w' := by
  have := accepts s w; rw [h.out] at this; exact this
theorem sends_v {s : Int} {v : Bool} (h : Hid (decide (s = 3 ∨ s = 4 ∨ s = 6) = v)) (w : World) : Calls Tryd.prog 17 #[.int .i64 s] w fun e w' => e = .returned (.bool v) ∧ w = w' := by
  have := sends s w; rw [h.out] at this; exact this
theorem takes_v {s : Int} {v : Bool} (h : Hid (decide (s = 3 ∨ s = 4 ∨ s = 5) = v)) (w : World) : Calls Tryd.prog 18 #[.int .i64 s] w fun e w' => e = .returned (.bool v) ∧ w = w' := by
  have := takes s w; rw [h.out] at this; exact this
theorem nm_out (s : Int) (h : ¬ (0 ≤ s ∧ s < 8)) : evs s 10 = [] := by
  unfold evs
  rw [List.filter_eq_nil_iff]
  intro e _
  rw [(on_out_val s e (by omega)).1]
  decide
theorem nm_empty (s : Int) (h : (nmB s).toList = []) : evs s 10 = [] := by
  by_cases hs : 0 ≤ s ∧ s < 8
  · exfalso
    rcases cases8 hs.1 hs.2 with rfl | rfl | rfl | rfl | rfl | rfl | rfl | rfl <;> exact absurd h (by decide +kernel)
  · exact nm_out s hs
theorem nm_in (s : Int) (h : (nmB s).toList.isEmpty = false) : 0 ≤ s ∧ s < 8 := by
  by_cases hs : 0 ≤ s ∧ s < 8
  · exact hs
  · exfalso
    unfold nmB at h
    rw [if_neg hs] at h
    exact absurd h (by decide +kernel)
theorem nm_pairs : ∀ a : Fin 8, ∀ b : Fin 8, (((nmB (a.val : Int)).toList == (nmB (b.val : Int)).toList) == ((a.val : Int) == (b.val : Int))) = true := by decide +kernel
theorem nm_same (s t : Int) (h : (nmB s).toList.isEmpty = false) (h' : (nmB t).toList.isEmpty = false) : (((nmB s).toList == (nmB t).toList) == (s == t)) = true := by
  obtain ⟨a0, a1⟩ := nm_in s h
  obtain ⟨b0, b1⟩ := nm_in t h'
  obtain ⟨a, rfl⟩ := Int.eq_ofNat_of_zero_le a0
  obtain ⟨b, rfl⟩ := Int.eq_ofNat_of_zero_le b0
  exact nm_pairs ⟨a, by omega⟩ ⟨b, by omega⟩
theorem none_of (s t : Int) (h : evs s 10 = [] ∨ evs t 10 = []) : (((evs s 10).length : Int) == 0 || ((evs t 10).length : Int) == 0) = true := by
  rcases h with h | h <;> simp [h]
theorem none_of_either (s t : Int) (h : (nmB s).toList.isEmpty = true ∨ (nmB t).toList.isEmpty = true) : (((evs s 10).length : Int) == 0 || ((evs t 10).length : Int) == 0) = true :=
  none_of s t (h.imp (fun h => nm_empty s (by simpa using h)) (fun h => nm_empty t (by simpa using h)))
theorem nm_both (s t : Int) (h : (nmB s).toList.isEmpty = false ∧ (nmB t).toList.isEmpty = false) : (((nmB s).toList == (nmB t).toList) == (s == t)) = true := nm_same s t h.1 h.2
set_option maxHeartbeats 800000 in
theorem names (s t : Int) (w : World) (ht0 : TabNow w) :
    Calls Tryd.prog 7 #[.int .i64 s, .int .i64 t] w fun e w' => e = .returned (.bool true) ∧ Below w.heap.size w w' := by
  have ht := hid ht0
  clear ht0
  obtain ⟨v3, h3⟩ : ∃ v, Hid (decide (s = 3) = v) := ⟨_, hid rfl⟩
  have h4 : v3 = true → Hid (decide (s = 3 ∨ s = 4 ∨ s = 6) = true) := fun e => hid (by have := h3.out; rw [e] at this; simp at this; simp [this])
  have h5 : v3 = true → Hid (decide (s = 3 ∨ s = 4 ∨ s = 5) = true) := fun e => hid (by have := h3.out; rw [e] at this; simp at this; simp [this])
  cases v3
  · clear h4 h5
    go_enter Tryd.func7, Tryd.ntmps7
    go_wp2_with (first
      | (go_at_call 8; refine (alive_b ht).mono ?_; rintro e w1 ⟨rfl, hb1⟩)
      | (go_at_call 16; refine (accepts_v h3 _).mono ?_; rintro e w' ⟨rfl, rfl⟩)
      | (go_at_call 11; refine (string_b ht _ _ (by assumption)).mono ?_; rintro e w1 ⟨rfl, hb1⟩)
      | (go_at_call 13; refine (events_b _ _ (by assumption)).mono ?_; rintro e w1 ⟨a, c, rfl, _, hb1⟩))
    all_goals go_ret
    all_goals refine ⟨ret_bool ?_, Hid.out (by assumption)⟩
    · rfl
    · exact none_of s t (.inl (nm_empty s (by assumption)))
    · rfl
    · exact none_of_either s t (by assumption)
    · exact nm_both s t (by assumption)
  · have h4' := h4 rfl
    have h5' := h5 rfl
    clear h4 h5
    go_enter Tryd.func7, Tryd.ntmps7
    go_wp2_with (first
      | (go_at_call 8; refine (alive_b ht).mono ?_; rintro e w1 ⟨rfl, hb1⟩)
      | (go_at_call 16; refine (accepts_v h3 _).mono ?_; rintro e w' ⟨rfl, rfl⟩)
      | (go_at_call 17; refine (sends_v h4' _).mono ?_; rintro e w' ⟨rfl, rfl⟩)
      | (go_at_call 18; refine (takes_v h5' _).mono ?_; rintro e w' ⟨rfl, rfl⟩)
      | (go_at_call 11; refine (string_b ht _ _ (by assumption)).mono ?_; rintro e w1 ⟨rfl, hb1⟩)
      | (go_at_call 13; refine (events_b _ _ (by assumption)).mono ?_; rintro e w1 ⟨a, c, rfl, _, hb1⟩))
    all_goals go_ret
    all_goals refine ⟨ret_bool ?_, Hid.out (by assumption)⟩
    · rfl
    · exact none_of s t (.inl (nm_empty s (by assumption)))
    · rfl
    · exact none_of_either s t (by assumption)
    · exact nm_both s t (by assumption)
theorem namesW (s : Int) (_ : (Lit.int .i64 s).wf = true) (t : Int) (_ : (Lit.int .i64 t).wf = true) (w : World) (ht : TabNow w) :
    Calls Tryd.prog 7 #[.int .i64 s, .int .i64 t] w fun e w' => e = .returned (.bool true) ∧ Below w.heap.size w w' := names s t w ht
end Go.Proofs.YtgbjbmakjilddabDoor.St
