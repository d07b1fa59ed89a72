/- What the reference's On answers, over this seat's translation. -/
import Derived.Test.YtgbjbmakjilddabDoorOn
namespace Go.Proofs.YtgbjbmakjilddabDoor.St
open Go.ChangeShapes Go.WideShapes Go.ChangeAt Go.RowKit
set_option maxHeartbeats 8000000 in
theorem ref_in (s e : Int) (w : World) (h0 : 0 ≤ s) (h1 : s < 8) (h2 : 0 ≤ e) (h3 : e < 10) :
    Calls Tryd.prog 9 #[.int .i64 s, .int .i64 e] w fun x w' => x = .returned (.tuple #[.int .i64 (onV s e), .int .i64 (onE s e)]) ∧ w = w' := by
  rcases cases8 h0 h1 with rfl | rfl | rfl | rfl | rfl | rfl | rfl | rfl <;>
  rcases cases10 h2 h3 with rfl | rfl | rfl | rfl | rfl | rfl | rfl | rfl | rfl | rfl
  all_goals
    clear h0 h1 h2 h3
    go_enter Tryd.func9, Tryd.ntmps9
    go_wp2
    go_ret2
    exact ⟨rfl, rfl⟩
theorem ref_out (s e : Int) (w : World) (h : ¬ (0 ≤ s ∧ s < 8 ∧ 0 ≤ e ∧ e < 10)) :
    Calls Tryd.prog 9 #[.int .i64 s, .int .i64 e] w fun x w' => x = .returned (.tuple #[.int .i64 0, .int .i64 1]) ∧ w = w' := by
  have hh : s < 0 ∨ 8 ≤ s ∨ (0 ≤ s ∧ s < 8 ∧ e < 0) ∨ (0 ≤ s ∧ s < 8 ∧ 0 ≤ e ∧ 10 ≤ e) := by omega
  clear h
  rcases hh with h | h | ⟨h, h', h2⟩ | ⟨h, h', h2, h3⟩
  all_goals
    go_enter Tryd.func9, Tryd.ntmps9
    go_wp2
    go_ret2
    exact ⟨rfl, rfl⟩
theorem ref_any (s e : Int) (w : World) :
    Calls Tryd.prog 9 #[.int .i64 s, .int .i64 e] w fun x w' => x = .returned (.tuple #[.int .i64 (onV s e), .int .i64 (onE s e)]) ∧ w = w' := by
  by_cases h : 0 ≤ s ∧ s < 8 ∧ 0 ≤ e ∧ e < 10
  · exact ref_in s e w h.1 h.2.1 h.2.2.1 h.2.2.2
  · obtain ⟨a, b⟩ := on_out_val s e h
    rw [a, b]
    exact ref_out s e w h
end Go.Proofs.YtgbjbmakjilddabDoor.St
