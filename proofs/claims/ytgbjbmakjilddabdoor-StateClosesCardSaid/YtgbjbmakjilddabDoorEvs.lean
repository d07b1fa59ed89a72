/- What state.Events, Accepts, Sends and Takes answer, over this seat's translation. -/
import Derived.Test.YtgbjbmakjilddabDoorStr
import Derived.OwnWalk
import Derived.Below
import Derived.Maps.AppendAt
namespace Go.Proofs.YtgbjbmakjilddabDoor.St
open Go.ChangeShapes Go.WideShapes Go.ChangeAt Go.RowKit
theorem accepts (s : Int) (w : World) : Calls Tryd.prog 16 #[.int .i64 s] w fun e w' => e = .returned (.bool (decide (s = 3))) ∧ w = w' := by
  go_enter Tryd.func16, Tryd.ntmps16
  go_wp2
  go_ret
  exact ⟨ret_bool (by rw [Bool.eq_iff_iff]; simp), rfl⟩
theorem sends (s : Int) (w : World) : Calls Tryd.prog 17 #[.int .i64 s] w fun e w' => e = .returned (.bool (decide (s = 3 ∨ s = 4 ∨ s = 6))) ∧ w = w' := by
  by_cases h3 : s = 3
  · subst h3
    go_enter Tryd.func17, Tryd.ntmps17
    go_wp2
    go_ret
    exact ⟨rfl, rfl⟩
  · by_cases h4 : s = 4
    · subst h4
      go_enter Tryd.func17, Tryd.ntmps17
      go_wp2
      go_ret
      exact ⟨rfl, rfl⟩
    · have e3 : (s == 3) = false := by simpa using h3
      have e4 : (s == 4) = false := by simpa using h4
      have ev : decide (s = 3 ∨ s = 4 ∨ s = 6) = (s == 6) := by rw [Bool.eq_iff_iff]; simp [h3, h4]
      rw [ev]
      clear ev h3 h4
      go_enter Tryd.func17, Tryd.ntmps17
      go_wp2
      go_ret
      exact ⟨rfl, rfl⟩
theorem takes (s : Int) (w : World) : Calls Tryd.prog 18 #[.int .i64 s] w fun e w' => e = .returned (.bool (decide (s = 3 ∨ s = 4 ∨ s = 5))) ∧ w = w' := by
  by_cases h3 : s = 3
  · subst h3
    go_enter Tryd.func18, Tryd.ntmps18
    go_wp2
    go_ret
    exact ⟨rfl, rfl⟩
  · by_cases h4 : s = 4
    · subst h4
      go_enter Tryd.func18, Tryd.ntmps18
      go_wp2
      go_ret
      exact ⟨rfl, rfl⟩
    · have e3 : (s == 3) = false := by simpa using h3
      have e4 : (s == 4) = false := by simpa using h4
      have ev : decide (s = 3 ∨ s = 4 ∨ s = 5) = (s == 5) := by rw [Bool.eq_iff_iff]; simp [h3, h4]
      rw [ev]
      clear ev h3 h4
      go_enter Tryd.func18, Tryd.ntmps18
      go_wp2
      go_ret
      exact ⟨rfl, rfl⟩
def evs (s : Int) (k : Nat) : List Int := ((List.range k).map (fun i : Nat => (i : Int))).filter (fun e => decide (onE s e = 0))
theorem evs_ok (s : Int) (k : Nat) (h : onE s k = 0) : evs s (k + 1) = evs s k ++ [(k : Int)] := by
  simp [evs, List.range_succ, h]
theorem evs_bad (s : Int) (k : Nat) (h : ¬ onE s k = 0) : evs s (k + 1) = evs s k := by
  simp [evs, List.range_succ, h]
theorem evs_len (s : Int) (k : Nat) : (evs s k).length ≤ k := by
  unfold evs
  exact Nat.le_trans (List.length_filter_le _ _) (by simp)
theorem info25 : (Tryd.prog.info? 25).map (fun i => (i.zero, i.size, i.bytes)) = some (some (.int .i64 0), 1, 8) := by kernel_rfl
theorem slice_of_row {w : World} {base : Nat} {e : TypeId} {v : Value} {n : Nat} {xs : List Value} (h : w.ownsRow base e 1 v n xs) : ∃ a c, v = .slice a n c := by
  rcases h with ⟨hl, ⟨rfl, h⟩ | ⟨g, cap', cur, rfl, _⟩⟩
  · subst h
    simp at hl
    subst hl
    exact ⟨_, _, rfl⟩
  · exact ⟨_, _, rfl⟩
set_option maxHeartbeats 800000 in
set_option maxRecDepth 100000 in
theorem events (s : Int) (w : World) : Calls Tryd.prog 13 #[.int .i64 s] w fun e w' => ∃ v, e = .returned v ∧ w'.ownsRow w.heap.size 25 1 v (evs s 10).length ((evs s 10).map (Value.int .i64)) ∧ Below w.heap.size w w' := by
  obtain ⟨i0, hi, hz0, hz1, hz2⟩ := info_parts info25
  go_enter Tryd.func13, Tryd.ntmps13
  go_wp2
  go_loopw [3, 7] (fun v i wr => ∃ k : Nat, k ≤ 10 ∧ i = .int .i64 k ∧ wr.ownsRow w.heap.size 25 1 v (evs s k).length ((evs s k).map (Value.int .i64)) ∧ Below w.heap.size w wr) (fun _ i _ => 10 - (intOf i).toNat)
  case atStart => exact ⟨0, by omega, rfl, World.ownsRow_nil _ _ _ _, Below.refl _ _⟩
  case round =>
    obtain ⟨k, hk, rfl, hown, hb⟩ := hrel
    have hsz := hb.size
    have hle := evs_len s k
    by_cases hlt : k < 10
    · by_cases hz : onE s k = 0
      · have HZ := hid hz
        have HE := hid (evs_ok s k hz)
        clear hz
        go_wp2_with (first
          | (go_at_call 12; refine (on_ok _ _ _ HZ.out).mono ?_; rintro e w' ⟨rfl, rfl⟩)
          | (at_builtin; refine wpList_append_own _ rfl _ _ 24 rfl w.heap.size 25 i0 (.int .i64 0) 1 8 Tryd.underlying24 hi hz0 hz1 hz2 rfl (by decide) _ _ _ rfl (hown.alloc _) ⟨wr.heap.size, 0, none⟩ 1 1 [.int .i64 k] rfl rfl ?c1 ?c2 ?c3 ?c4 ?c5 ?_))
        case c1 => exact cell_one_new _ _ _
        case c2 => simp [Value.oneCell']
        case c3 => unfold maxLen; omega
        case c4 => omega
        case c5 => simp; omega
        intro v' w1 hown' hgrow _
        go_wp2
        go_roundw
        case rel => exact ⟨k + 1, by omega, by go_num, by rw [HE.out]; simpa using hown', (hb.alloc hsz _).grown hgrow (by simp; omega) (fun j e => (hown.lt j e).1)⟩
        case measure => simp [intOf]; omega
      · have HZ := hid hz
        have HE := hid (evs_bad s k hz)
        clear hz
        go_wp2_with (go_at_call 12; refine (on_bad _ _ _ HZ.out).mono ?_; rintro e w' ⟨rfl, rfl⟩)
        go_roundw
        case rel => exact ⟨k + 1, by omega, by go_num, by rw [HE.out]; exact hown, hb⟩
        case measure => simp [intOf]; omega
    · obtain rfl : k = 10 := by omega
      go_wp2
      go_ret
      exact ⟨_, rfl, hown, hb⟩
end Go.Proofs.YtgbjbmakjilddabDoor.St
