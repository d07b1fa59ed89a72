/- StateEvents by its walk, over this seat's translation: the parts. -/
import Derived.Test.YtgbjbmakjilddabDoorNames
namespace Go.Proofs.YtgbjbmakjilddabDoor.St
open Go.ChangeShapes Go.WideShapes Go.ChangeAt Go.RowKit
theorem mem_evs (s e : Int) : e ∈ evs s 10 ↔ onE s e = 0 := by
  unfold evs
  rw [List.mem_filter]
  constructor
  · intro h; simpa using h.2
  · intro h
    have hr : 0 ≤ s ∧ s < 8 ∧ 0 ≤ e ∧ e < 10 := by
      by_cases hr : 0 ≤ s ∧ s < 8 ∧ 0 ≤ e ∧ e < 10
      · exact hr
      · have := (on_out_val s e hr).1; omega
    refine ⟨?_, by simpa using h⟩
    rw [List.mem_map]
    exact ⟨e.toNat, by rw [List.mem_range]; omega, by omega⟩
theorem take_mem (l : List Int) (k : Nat) (h : k < l.length) (e : Int) : decide (e ∈ l.take (k + 1)) = (decide (e ∈ l.take k) || (l[k]?.getD 0 == e)) := by
  rw [Num.take_snoc l k h]
  simp only [List.mem_append, List.mem_singleton, Bool.decide_or]
  congr 1
  rw [Bool.eq_iff_iff, decide_eq_true_eq, beq_iff_eq]
  exact eq_comm
theorem one_cell (w : World) (b : Nat) (hb : w.heap.size = b) (e : Int) (t : TypeId) : ∀ j, j < 1 → (w.alloc (.cells #[.int .i64 e] t)).cell? ⟨b, 0 + j, none⟩ = some (.int .i64 (([e] : List Int)[j]?.getD 0)) := by
  intro j hj
  obtain rfl : j = 0 := by omega
  subst hb
  rw [World.cell?_alloc_at _ _ _ _ rfl]; rfl
theorem run_one_ok {s e : Int} (h : onE s e = 0) (w : World) (b cap : Nat) (hc : ∀ j, j < 1 → w.cell? ⟨b, 0 + j, none⟩ = some (.int .i64 (([e] : List Int)[j]?.getD 0))) :
    Calls Tryd.prog 10 #[.int .i64 s, .slice (some ⟨b, 0, none⟩) 1 cap] w fun x w' => x = .returned (.tuple #[.int .i64 (onV s e), .int .i64 1]) ∧ w = w' := by
  have := run_at s b 0 1 cap [e] w rfl (by omega) hc
  rw [runS_ok h, runN_ok h] at this
  exact this
theorem run_one_bad {s e : Int} (h : ¬ onE s e = 0) (w : World) (b cap : Nat) (hc : ∀ j, j < 1 → w.cell? ⟨b, 0 + j, none⟩ = some (.int .i64 (([e] : List Int)[j]?.getD 0))) :
    Calls Tryd.prog 10 #[.int .i64 s, .slice (some ⟨b, 0, none⟩) 1 cap] w fun x w' => x = .returned (.tuple #[.int .i64 s, .int .i64 0]) ∧ w = w' := by
  have := run_at s b 0 1 cap [e] w rfl (by omega) hc
  rw [runS_bad h, runN_bad h] at this
  exact this
set_option maxHeartbeats 1600000 in
theorem eventsL (s e : Int) (w : World) (ht0 : TabNow w) :
    Calls Tryd.prog 5 #[.int .i64 s, .int .i64 e] w fun x w' => x = .returned (.bool true) ∧ Below w.heap.size w w' := by
  have ht := hid ht0
  clear ht0
  have hlen := evs_len s 10
  by_cases hz : onE s e = 0
  · have HZ := hid hz
    have HT : Hid (decide (e ∈ evs s 10) = true) := hid (decide_eq_true ((mem_evs s e).2 hz))
    clear hz
    go_enter Tryd.func5, Tryd.ntmps5
    go_wp2_with (first
      | (go_at_call 8; refine (alive_b ht).mono ?_; rintro x w1 ⟨rfl, hb1⟩)
      | (go_at_call 12; refine (on_ok _ _ _ HZ.out).mono ?_; rintro x w' ⟨rfl, rfl⟩)
      | (go_at_call 13; refine (events_b _ _ (by assumption)).mono ?_; rintro x w2 ⟨a, c, rfl, hev, hb2⟩))
    go_loop [8, 25] (fun b i => ∃ (k : Nat) (v : Bool), k ≤ (evs s 10).length ∧ i = .int .i64 k ∧ b = .bool v ∧ Hid (v = decide (e ∈ (evs s 10).take k))) (fun _ i => (evs s 10).length - (intOf i).toNat)
    case atStart => exact ⟨0, false, Nat.zero_le _, rfl, rfl, hid (by simp)⟩
    case round =>
      obtain ⟨k, v, hk, rfl, rfl, hv⟩ := hrel
      by_cases hlt : k < (evs s 10).length
      · rcases hev.out with h | ⟨b, o, rfl, hc⟩
        · exfalso; rw [h] at hlt; simp at hlt
        have hcell := hc k hlt
        clear hc
        have htm := hid (take_mem (evs s 10) k hlt e)
        generalize (evs s 10)[k]?.getD 0 = y at hcell htm
        cases v
        · go_wp2
          go_round
          case rel => exact ⟨k + 1, _, by omega, by go_num, rfl, hid (by rw [htm.out, ← hv.out]; rfl)⟩
          case measure => simp [intOf]; omega
        · go_wp2
          go_round
          case rel => exact ⟨k + 1, _, by omega, by go_num, rfl, hid (by rw [htm.out, ← hv.out]; rfl)⟩
          case measure => simp [intOf]; omega
      · have hv1 : v = true := by
          rw [hv.out, List.take_of_length_le (by omega)]; exact HT.out
        subst hv1
        go_wp2_with (go_at_call 10; refine (run_one_ok HZ.out _ _ _ (one_cell _ _ rfl _ _)).mono ?_; rintro x w' ⟨rfl, rfl⟩)
        go_ret
        exact ⟨rfl, hb2.out.alloc hb2.out.size _⟩
  · have HZ := hid hz
    have HT : Hid (decide (e ∈ evs s 10) = false) := hid (decide_eq_false (fun h => hz ((mem_evs s e).1 h)))
    clear hz
    go_enter Tryd.func5, Tryd.ntmps5
    go_wp2_with (first
      | (go_at_call 8; refine (alive_b ht).mono ?_; rintro x w1 ⟨rfl, hb1⟩)
      | (go_at_call 12; refine (on_bad _ _ _ HZ.out).mono ?_; rintro x w' ⟨rfl, rfl⟩)
      | (go_at_call 13; refine (events_b _ _ (by assumption)).mono ?_; rintro x w2 ⟨a, c, rfl, hev, hb2⟩))
    go_loop [8, 25] (fun b i => ∃ (k : Nat) (v : Bool), k ≤ (evs s 10).length ∧ i = .int .i64 k ∧ b = .bool v ∧ Hid (v = decide (e ∈ (evs s 10).take k))) (fun _ i => (evs s 10).length - (intOf i).toNat)
    case atStart => exact ⟨0, false, Nat.zero_le _, rfl, rfl, hid (by simp)⟩
    case round =>
      obtain ⟨k, v, hk, rfl, rfl, hv⟩ := hrel
      by_cases hlt : k < (evs s 10).length
      · rcases hev.out with h | ⟨b, o, rfl, hc⟩
        · exfalso; rw [h] at hlt; simp at hlt
        have hcell := hc k hlt
        clear hc
        have htm := hid (take_mem (evs s 10) k hlt e)
        generalize (evs s 10)[k]?.getD 0 = y at hcell htm
        cases v
        · go_wp2
          go_round
          case rel => exact ⟨k + 1, _, by omega, by go_num, rfl, hid (by rw [htm.out, ← hv.out]; rfl)⟩
          case measure => simp [intOf]; omega
        · go_wp2
          go_round
          case rel => exact ⟨k + 1, _, by omega, by go_num, rfl, hid (by rw [htm.out, ← hv.out]; rfl)⟩
          case measure => simp [intOf]; omega
      · have hv1 : v = false := by
          rw [hv.out, List.take_of_length_le (by omega)]; exact HT.out
        subst hv1
        go_wp2_with (go_at_call 10; refine (run_one_bad HZ.out _ _ _ (one_cell _ _ rfl _ _)).mono ?_; rintro x w' ⟨rfl, rfl⟩)
        go_ret
        exact ⟨rfl, hb2.out.alloc hb2.out.size _⟩
theorem eventsW (s : Int) (_ : (Lit.int .i64 s).wf = true) (t : Int) (_ : (Lit.int .i64 t).wf = true) (w : World) (ht : TabNow w) :
    Calls Tryd.prog 5 #[.int .i64 s, .int .i64 t] w fun e w' => e = .returned (.bool true) ∧ Below w.heap.size w w' := eventsL s t w ht
end Go.Proofs.YtgbjbmakjilddabDoor.St
