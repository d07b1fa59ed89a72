/- What weftlinenum.Ints answers, over this seat's translation. -/
import Derived.Test.YtgbjbmakjilddabDoorProg
import Derived.WalkKit
import Derived.ProofKit
import Derived.OpenShut
import Derived.Deep.QuietTactic
import Derived.BigQuiet
import Derived.LoopTactic
import Derived.OwnWalk
import Derived.Below
namespace Go.Proofs.YtgbjbmakjilddabDoor.Num
open Go.ChangeShapes Go.WideShapes Go.ChangeAt Go.RowKit
theorem hid {p : Prop} (h : p) : Hid p := h
theorem ret_bool {a b : Bool} (h : a = b) : Ending.returned (.bool a) = .returned (.bool b) := by rw [h]
/-- The cells behind a slice's address are these integers. -/
def IntsAt (w : World) (a : Option Addr) (xs : List Int) : Prop := xs = [] ∨ ∃ b o, a = some ⟨b, o, none⟩ ∧ ∀ j, j < xs.length → w.cell? ⟨b, o + j, none⟩ = some (.int .i64 (xs[j]?.getD 0))
theorem ints_no (w : World) (a a' : Option Addr) (n n' c c' : Nat) (h : ¬ n = n') :
    Calls Tryd.prog 19 #[.slice a n c, .slice a' n' c'] w fun e w' => e = .returned (.bool false) ∧ w' = w := by
  have e : ((n : Int) != (n' : Int)) = true := by simp; omega
  clear h
  go_enter Tryd.func19, Tryd.ntmps19
  go_wp2
  go_ret
  exact ⟨rfl, rfl⟩
theorem take_snoc (l : List Int) (k : Nat) (h : k < l.length) : l.take (k + 1) = l.take k ++ [l[k]?.getD 0] := by
  rw [List.take_succ_eq_append_getElem h]; simp [h]
theorem ne_of_at {xs ys : List Int} (k : Nat) (h : ¬ xs[k]?.getD 0 = ys[k]?.getD 0) : ¬ xs = ys := by
  intro e; subst e; exact h rfl
set_option maxHeartbeats 400000 in
theorem ints_yes (w : World) (a a' : Option Addr) (n c c' : Nat) (xs ys : List Int) (hx : xs.length = n) (hy : ys.length = n) (hn : n ≤ 9223372036854775807) (rx : IntsAt w a xs) (ry : IntsAt w a' ys) :
    Calls Tryd.prog 19 #[.slice a n c, .slice a' n c'] w fun e w' => e = .returned (.bool (decide (xs = ys))) ∧ ∃ q, w' = w.drewN q := by
  have e : ((n : Int) != (n : Int)) = false := by simp
  have RX := hid rx
  have RY := hid ry
  have HX := hid hx
  have HY := hid hy
  clear rx ry hx hy
  go_enter Tryd.func19, Tryd.ntmps19
  go_wp2
  go_loopw [13] (fun i wr => ∃ k : Nat, k ≤ n ∧ i = .int .i64 k ∧ Hid (xs.take k = ys.take k) ∧ ∃ q, wr = w.drewN q) (fun i _ => n - (intOf i).toNat)
  case atStart => exact ⟨0, by omega, rfl, hid rfl, 0, rfl⟩
  case round =>
    obtain ⟨k, hk, rfl, ht, q, rfl⟩ := hrel
    by_cases hlt : k < n
    · have hkx : k < xs.length := by rw [HX.out]; exact hlt
      have hky : k < ys.length := by rw [HY.out]; exact hlt
      rcases RX.out with h | ⟨b, o, rfl, hc⟩
      · rw [h] at hkx; simp at hkx
      rcases RY.out with h | ⟨b', o', rfl, hc'⟩
      · rw [h] at hky; simp at hky
      have cx : w.cell? ⟨b, o + k, none⟩ = some (.int .i64 (xs[k]?.getD 0)) := hc k hkx
      have cy : w.cell? ⟨b', o' + k, none⟩ = some (.int .i64 (ys[k]?.getD 0)) := hc' k hky
      clear hc hc'
      have tx := hid (take_snoc xs k hkx)
      have ty := hid (take_snoc ys k hky)
      have hne := hid (ne_of_at (xs := xs) (ys := ys) k)
      clear hkx hky
      generalize xs[k]?.getD 0 = x at *
      generalize ys[k]?.getD 0 = y at *
      by_cases hxy : x = y
      · have hb : (x != y) = false := by simp [hxy]
        have HXY := hid hxy
        clear hxy
        go_wp2
        go_quiet (fail)
        go_wp2
        go_roundw
        case rel => exact ⟨k + 1, by omega, by go_num, hid (by rw [tx.out, ty.out, ht.out, HXY.out]), _, rfl⟩
        case measure => simp [intOf]; omega
      · have hb : (x != y) = true := by simp [hxy]
        have HXY := hid hxy
        clear hxy
        go_wp2
        go_quiet (fail)
        go_wp2
        go_ret
        exact ⟨ret_bool (by simp [hne.out HXY.out]), _, World.drewN_drewN _ _ _⟩
    · have hk' : k = n := by omega
      have HK := hid hk'
      clear hk'
      go_wp2
      go_ret
      refine ⟨ret_bool ?_, _, rfl⟩
      have := ht.out
      rw [List.take_of_length_le (by rw [HX.out, HK.out]; exact Nat.le_refl _), List.take_of_length_le (by rw [HY.out, HK.out]; exact Nat.le_refl _)] at this
      simp [this]
end Go.Proofs.YtgbjbmakjilddabDoor.Num
