/- What the reference's Name and weftlinenum.Num answer, over this seat's translation. -/
import Derived.Test.YtgbjbmakjilddabDoorStr
import Derived.OwnWalk
import Derived.Below
namespace Go.Proofs.YtgbjbmakjilddabDoor.St
open Go.ChangeShapes Go.WideShapes Go.ChangeAt Go.RowKit
set_option maxHeartbeats 1600000 in
set_option maxRecDepth 100000 in
theorem name_any (s : Int) (w : World) : Calls Tryd.prog 15 #[.int .i64 s] w fun e w' => e = .returned (.string (nmB s)) ∧ Below w.heap.size w w' := by
  by_cases h : 0 ≤ s ∧ s < 8
  · obtain ⟨h0, h1⟩ := h
    have hs : s = 0 ∨ s = 1 ∨ s = 2 ∨ s = 3 ∨ s = 4 ∨ s = 5 ∨ s = 6 ∨ s = 7 := by omega
    clear h0 h1
    rcases hs with rfl | rfl | rfl | rfl | rfl | rfl | rfl | rfl
    all_goals
      go_enter Tryd.func15, Tryd.ntmps15
      go_wp2
      go_ret
      exact ⟨rfl, (Below.refl _ _).alloc (Nat.le_refl _) _⟩
  · have hn : nmB s = ⟨#[]⟩ := by unfold nmB; rw [if_neg h]
    rw [hn]
    clear hn
    have h' : s < 0 ∨ 8 ≤ s := by omega
    clear h
    rcases h' with h | h
    all_goals
      go_enter Tryd.func15, Tryd.ntmps15
      go_wp2
      go_ret
      exact ⟨rfl, (Below.refl _ _).alloc (Nat.le_refl _) _⟩
theorem num_nil (w : World) : Calls Tryd.prog 14 #[.nilIface] w fun e w' => e = .returned (.int .i64 0) ∧ w = w' := by
  go_enter Tryd.func14, Tryd.ntmps14
  go_wp2
  go_ret
  exact ⟨rfl, rfl⟩
@[local go_sem] theorem as44 (v : Value) (w : World) : (Instr.typeAssert (.iface 44 v) 34 44 true).run Tryd.prog w = .ok (.tuple #[v, .bool true]) w := by kernel_rfl
theorem num_errno (c : Int) (hc : (c != 0) = true) (w : World) : Calls Tryd.prog 14 #[.iface 44 (.int .i64 c)] w fun e w' => e = .returned (.int .i64 c) ∧ w = w' := by
  go_enter Tryd.func14, Tryd.ntmps14
  go_wp2
  go_ret
  exact ⟨rfl, rfl⟩
end Go.Proofs.YtgbjbmakjilddabDoor.St
