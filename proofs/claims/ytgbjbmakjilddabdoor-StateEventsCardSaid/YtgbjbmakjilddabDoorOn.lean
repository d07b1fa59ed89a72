/- What state.On answers, and state.Run, over this seat's translation. -/
import Derived.Test.YtgbjbmakjilddabDoorProg
import Derived.WalkKit
import Derived.ProofKit
import Derived.OpenShut
import Derived.Deep.QuietTactic
import Derived.BigQuiet
import Derived.LoopTactic
namespace Go.Proofs.YtgbjbmakjilddabDoor.St
open Go.ChangeShapes Go.WideShapes Go.ChangeAt Go.RowKit

theorem hid {p : Prop} (h : p) : Hid p := h
def tab : List Int := [49, 46, 46, 51, 46, 46, 46, 46, 46, 46, 46, 50, 46, 51, 48, 46, 46, 46, 46, 48, 46, 46, 51, 51, 48, 46, 46, 46, 46, 48, 46, 46, 46, 51, 52, 46, 54, 46, 46, 48, 46, 46, 46, 46, 46, 53, 54, 46, 46, 48, 46, 46, 46, 46, 46, 46, 55, 48, 46, 48, 46, 46, 46, 46, 46, 55, 54, 46, 46, 48, 46, 46, 46, 46, 46, 46, 55, 48, 48, 48]
def code (s e : Int) : Int := tab.getD (s * 10 + e).toNat 0
def onE (s e : Int) : Int := if 0 ≤ s ∧ s < 8 ∧ 0 ≤ e ∧ e < 10 then (if code s e = 46 then 5 else 0) else 1
def onV (s e : Int) : Int := if onE s e = 0 then code s e - 48 else 0
def errW (c : Int) : Value := if c = 0 then .nilIface else .iface 44 (.int .i64 c)
theorem ret_pair {a b c d : Value} (h : a = c) (h' : b = d) : Ending.returned (.tuple #[a, b]) = .returned (.tuple #[c, d]) := by rw [h, h']

theorem ret_ints {a b c d : Int} (h : a = c) (h' : b = d) : Ending.returned (.tuple #[.int .i64 a, .int .i64 b]) = .returned (.tuple #[.int .i64 c, .int .i64 d]) := by rw [h, h']
theorem cases8 {s : Int} (h0 : 0 ≤ s) (h1 : s < 8) : s = 0 ∨ s = 1 ∨ s = 2 ∨ s = 3 ∨ s = 4 ∨ s = 5 ∨ s = 6 ∨ s = 7 := by omega
theorem cases10 {s : Int} (h0 : 0 ≤ s) (h1 : s < 10) : s = 0 ∨ s = 1 ∨ s = 2 ∨ s = 3 ∨ s = 4 ∨ s = 5 ∨ s = 6 ∨ s = 7 ∨ s = 8 ∨ s = 9 := by omega

set_option maxHeartbeats 4000000 in
theorem on_in (s e : Int) (w : World) (h0 : 0 ≤ s) (h1 : s < 8) (h2 : 0 ≤ e) (h3 : e < 10) :
    Calls Tryd.prog 12 #[.int .i64 s, .int .i64 e] w fun x w' => x = .returned (.tuple #[.int .i64 (onV s e), errW (onE s e)]) ∧ w = w' := by
  rcases cases8 h0 h1 with rfl | rfl | rfl | rfl | rfl | rfl | rfl | rfl <;>
  rcases cases10 h2 h3 with rfl | rfl | rfl | rfl | rfl | rfl | rfl | rfl | rfl | rfl
  all_goals
    clear h0 h1 h2 h3
    go_enter Tryd.func12, Tryd.ntmps12
    go_wp2
    go_ret2
    exact ⟨rfl, rfl⟩
theorem on_out_val (s e : Int) (h : ¬ (0 ≤ s ∧ s < 8 ∧ 0 ≤ e ∧ e < 10)) : onE s e = 1 ∧ onV s e = 0 := by
  have a : onE s e = 1 := by rw [onE, if_neg h]
  exact ⟨a, by rw [onV, a]; rfl⟩
theorem on_out (s e : Int) (w : World) (h : ¬ (0 ≤ s ∧ s < 8 ∧ 0 ≤ e ∧ e < 10)) :
    Calls Tryd.prog 12 #[.int .i64 s, .int .i64 e] w fun x w' => x = .returned (.tuple #[.int .i64 0, .iface 44 (.int .i64 1)]) ∧ w = w' := by
  have hh : s < 0 ∨ 8 ≤ s ∨ (0 ≤ s ∧ s < 8 ∧ e < 0) ∨ (0 ≤ s ∧ s < 8 ∧ 0 ≤ e ∧ 10 ≤ e) := by omega
  clear h
  rcases hh with h | h | ⟨h, h', h''⟩ | ⟨h, h', h'', h3⟩
  all_goals
    go_enter Tryd.func12, Tryd.ntmps12
    go_wp2
    go_ret2
    exact ⟨rfl, rfl⟩
theorem on_any (s e : Int) (w : World) :
    Calls Tryd.prog 12 #[.int .i64 s, .int .i64 e] w fun x w' => x = .returned (.tuple #[.int .i64 (onV s e), errW (onE s e)]) ∧ w = w' := by
  by_cases h : 0 ≤ s ∧ s < 8 ∧ 0 ≤ e ∧ e < 10
  · exact on_in s e w h.1 h.2.1 h.2.2.1 h.2.2.2
  · obtain ⟨a, b⟩ := on_out_val s e h
    rw [a, b]
    exact on_out s e w h
theorem on_ok (s e : Int) (w : World) (h : onE s e = 0) :
    Calls Tryd.prog 12 #[.int .i64 s, .int .i64 e] w fun x w' => x = .returned (.tuple #[.int .i64 (onV s e), .nilIface]) ∧ w = w' := by
  have := on_any s e w
  rw [h] at this
  exact this
theorem on_bad (s e : Int) (w : World) (h : ¬ onE s e = 0) :
    Calls Tryd.prog 12 #[.int .i64 s, .int .i64 e] w fun x w' => x = .returned (.tuple #[.int .i64 0, .iface 44 (.int .i64 (onE s e))]) ∧ w = w' := by
  have := on_any s e w
  rw [onV, if_neg h, errW, if_neg h] at this
  exact this

def runS : Int → List Int → Int
  | s, [] => s
  | s, e :: l => if onE s e = 0 then runS (onV s e) l else s
def runN : Int → List Int → Nat
  | _, [] => 0
  | s, e :: l => if onE s e = 0 then runN (onV s e) l + 1 else 0
theorem runS_ok {s e : Int} {l : List Int} (h : onE s e = 0) : runS s (e :: l) = runS (onV s e) l := by rw [runS, if_pos h]
theorem runS_bad {s e : Int} {l : List Int} (h : ¬ onE s e = 0) : runS s (e :: l) = s := by rw [runS, if_neg h]
theorem runN_ok {s e : Int} {l : List Int} (h : onE s e = 0) : runN s (e :: l) = runN (onV s e) l + 1 := by rw [runN, if_pos h]
theorem runN_bad {s e : Int} {l : List Int} (h : ¬ onE s e = 0) : runN s (e :: l) = 0 := by rw [runN, if_neg h]
theorem drop_at (l : List Int) (k : Nat) (h : k < l.length) : l.drop k = l[k]?.getD 0 :: l.drop (k + 1) := by
  rw [List.drop_eq_getElem_cons h]; simp [h]

set_option maxHeartbeats 400000 in
theorem run_any (s : Int) (b off cap : Nat) (l : List Int) (w : World) (hn : l.length ≤ 9223372036854775807)
    (hc : ∀ j, j < l.length → w.cell? ⟨b, off + j, none⟩ = some (.int .i64 (l[j]?.getD 0))) :
    Calls Tryd.prog 10 #[.int .i64 s, .slice (some ⟨b, off, none⟩) l.length cap] w fun e w' => e = .returned (.tuple #[.int .i64 (runS s l), .int .i64 (runN s l)]) ∧ w = w' := by
  have Hc := hid hc
  clear hc
  go_enter Tryd.func10, Tryd.ntmps10
  go_wp2
  go_loop [0, 12] (fun c i => ∃ (k : Nat) (x : Int), k ≤ l.length ∧ i = .int .i64 k ∧ c = .int .i64 x ∧ Hid (runS s l = runS x (l.drop k)) ∧ Hid (runN s l = k + runN x (l.drop k))) (fun _ i => l.length - (intOf i).toNat)
  case atStart => exact ⟨0, s, Nat.zero_le _, rfl, rfl, hid rfl, hid (by simp)⟩
  case round =>
    obtain ⟨k, x, hk, rfl, rfl, h1, h2⟩ := hrel
    by_cases hlt : k < l.length
    · have hcell := Hc.out k hlt
      have hd := hid (drop_at l k hlt)
      generalize l[k]?.getD 0 = e at hcell hd
      by_cases hz : onE x e = 0
      · have HZ := hid hz
        clear hz
        go_wp2_with (go_at_call 12; refine (on_ok _ _ _ HZ.out).mono ?_; rintro e w' ⟨rfl, rfl⟩)
        go_round
        case rel => exact ⟨k + 1, _, by omega, by go_num, rfl, hid (by rw [h1.out, hd.out, runS_ok HZ.out]), hid (by rw [h2.out, hd.out, runN_ok HZ.out]; omega)⟩
        case measure => simp [intOf]; omega
      · have HZ := hid hz
        clear hz
        go_wp2_with (go_at_call 12; refine (on_bad _ _ _ HZ.out).mono ?_; rintro e w' ⟨rfl, rfl⟩)
        go_ret2
        exact ⟨ret_ints (by rw [h1.out, hd.out, runS_bad HZ.out]) (by rw [h2.out, hd.out, runN_bad HZ.out]; omega), rfl⟩
    · have hk' : k = l.length := by omega
      have HK := hid hk'
      clear hk'
      go_wp2
      go_ret2
      exact ⟨ret_ints (by rw [h1.out, HK.out]; simp [runS]) (by rw [h2.out, HK.out]; simp [runN]), rfl⟩
end Go.Proofs.YtgbjbmakjilddabDoor.St
