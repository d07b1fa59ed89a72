/- What state.String answers, and that the chapter's example holds, over this seat's translation. -/
import Derived.Test.YtgbjbmakjilddabDoorFields
import Derived.Test.YtgbjbmakjilddabDoorOn
import Derived.Lib.AppendIntMem
import Derived.WalkKit
import Derived.ProofKit
import Derived.OpenShut
import Derived.Deep.QuietTactic
import Derived.BigQuiet
import Derived.LoopTactic
namespace Go.Proofs.YtgbjbmakjilddabDoor.St
open Go.ChangeShapes Go.WideShapes Go.ChangeAt Go.RowKit
def words : List (List UInt8) := [[99, 108, 111, 115, 101, 100], [119, 97, 105, 116], [101, 99, 104, 111, 101, 100], [111, 112, 101, 110], [112, 101, 110, 100, 105, 110, 103], [115, 101, 110, 116], [114, 101, 99, 101, 105, 118, 101, 100], [101, 110, 100, 101, 100]]
def nmB (s : Int) : ByteArray := if 0 ≤ s ∧ s < 8 then ⟨(words.getD s.toNat []).toArray⟩ else ⟨#[]⟩
theorem fields_names : Lib.fields ([99, 108, 111, 115, 101, 100, 32, 119, 97, 105, 116, 32, 101, 99, 104, 111, 101, 100, 32, 111, 112, 101, 110, 32, 112, 101, 110, 100, 105, 110, 103, 32, 115, 101, 110, 116, 32, 114, 101, 99, 101, 105, 118, 101, 100, 32, 101, 110, 100, 101, 100] : List UInt8) = words := by decide +kernel
theorem fields_ascii : ∀ (j : Nat) (b : UInt8), ([99, 108, 111, 115, 101, 100, 32, 119, 97, 105, 116, 32, 101, 99, 104, 111, 101, 100, 32, 111, 112, 101, 110, 32, 112, 101, 110, 100, 105, 110, 103, 32, 115, 101, 110, 116, 32, 114, 101, 99, 101, 105, 118, 101, 100, 32, 101, 110, 100, 101, 100] : List UInt8)[j]? = some b → b.toNat < 128 := by
  intro j b h
  have := List.mem_of_getElem? h
  revert this
  generalize b = c
  intro hm
  have hall : ([99, 108, 111, 115, 101, 100, 32, 119, 97, 105, 116, 32, 101, 99, 104, 111, 101, 100, 32, 111, 112, 101, 110, 32, 112, 101, 110, 100, 105, 110, 103, 32, 115, 101, 110, 116, 32, 114, 101, 99, 101, 105, 118, 101, 100, 32, 101, 110, 100, 101, 100] : List UInt8).all (fun c => decide (c.toNat < 128)) = true := by decide +kernel
  exact of_decide_eq_true (List.all_eq_true.1 hall _ hm)
theorem there_yes (s : Int) (w : World) (h0 : 0 ≤ s) (h1 : s < 8) : Calls Tryd.prog 20 #[.int .i64 s] w fun e w' => e = .returned (.bool true) ∧ w = w' := by
  go_enter Tryd.func20, Tryd.ntmps20
  go_wp2
  go_ret
  exact ⟨rfl, rfl⟩
theorem ret_bool {a b : Bool} (h : a = b) : Ending.returned (.bool a) = .returned (.bool b) := by rw [h]
theorem there_no (s : Int) (w : World) (h : s < 0 ∨ 8 ≤ s) : Calls Tryd.prog 20 #[.int .i64 s] w fun e w' => e = .returned (.bool false) ∧ w = w' := by
  rcases h with h | h
  all_goals
    go_enter Tryd.func20, Tryd.ntmps20
    go_wp2
    go_ret
    exact ⟨ret_bool (by first | rfl | (simp; omega)), rfl⟩
theorem ret_str {a b : ByteArray} (h : a = b) : Ending.returned (.string a) = .returned (.string b) := by rw [h]
theorem string_no (s : Int) (w : World) (h : s < 0 ∨ 8 ≤ s) : Calls Tryd.prog 11 #[.int .i64 s] w fun e w' => e = .returned (.string (nmB s)) ∧ w = w' := by
  have hn : nmB s = ⟨#[]⟩ := by unfold nmB; rw [if_neg (by omega)]
  rw [hn]
  clear hn
  go_enter Tryd.func11, Tryd.ntmps11
  go_wp2_with (go_at_call 20; refine (there_no _ _ h).mono ?_; rintro e w' ⟨rfl, rfl⟩)
  go_ret
  exact ⟨rfl, rfl⟩
set_option maxRecDepth 100000 in
theorem string_yes (s : Int) (w : World) (h0 : 0 ≤ s) (h1 : s < 8) (htab : Lib.TabIs Tryd.prog w "strings.asciiSpace" .u8 Lib.asciiSpaceTab) : Calls Tryd.prog 11 #[.int .i64 s] w fun e w' => e = .returned (.string (nmB s)) ∧ Below w.heap.size w w' := by
  have cF := Tryd.strings_Fields ⟨#[99, 108, 111, 115, 101, 100, 32, 119, 97, 105, 116, 32, 101, 99, 104, 111, 101, 100, 32, 111, 112, 101, 110, 32, 112, 101, 110, 100, 105, 110, 103, 32, 115, 101, 110, 116, 32, 114, 101, 99, 101, 105, 118, 101, 100, 32, 101, 110, 100, 101, 100]⟩ w (by decide +kernel) fields_ascii htab
  rw [fields_names] at cF
  simp only [words, List.length_cons, List.length_nil, List.map_cons, List.map_nil] at cF
  clear htab
  have hs : s = 0 ∨ s = 1 ∨ s = 2 ∨ s = 3 ∨ s = 4 ∨ s = 5 ∨ s = 6 ∨ s = 7 := by omega
  rcases hs with rfl | rfl | rfl | rfl | rfl | rfl | rfl | rfl
  all_goals
    go_enter Tryd.func11, Tryd.ntmps11
    go_wp2_with (first | (go_at_call 20; refine (there_yes _ _ (by omega) (by omega)).mono ?_; rintro e w' ⟨rfl, rfl⟩) | (go_at_call 21; refine cF.mono ?_; rintro e w' ⟨rfl, rfl⟩))
    go_ret
    exact ⟨rfl, (Below.refl _ _).alloc (Nat.le_refl _) _⟩
theorem run_at (s : Int) (b off n cap : Nat) (l : List Int) (w : World) (hl : l.length = n) (hn : n ≤ 9223372036854775807)
    (hc : ∀ j, j < n → w.cell? ⟨b, off + j, none⟩ = some (.int .i64 (l[j]?.getD 0))) :
    Calls Tryd.prog 10 #[.int .i64 s, .slice (some ⟨b, off, none⟩) n cap] w fun e w' => e = .returned (.tuple #[.int .i64 (runS s l), .int .i64 (runN s l)]) ∧ w = w' := by
  subst hl
  exact run_any s b off cap l w hn hc
abbrev TabNow (w : World) : Prop := Lib.TabIs Tryd.prog w "strings.asciiSpace" .u8 Lib.asciiSpaceTab
theorem tab_later {w w' : World} (h : TabNow w) (hb : Below w.heap.size w w') : TabNow w' := (Lib.tabBelow_of_tabIs h) w' hb
theorem alive_val : runS 0 [0, 1, 2, 4, 5] = 5 ∧ runN 0 [0, 1, 2, 4, 5] = 5 := by decide +kernel
theorem alive_cells (w : World) (k : Nat) (hk : w.heap.size = k) (t : TypeId) : ∀ j, j < 5 → (w.alloc (.cells #[.int .i64 0, .int .i64 1, .int .i64 2, .int .i64 4, .int .i64 5] t)).cell? ⟨k, 0 + j, none⟩ = some (.int .i64 (([0, 1, 2, 4, 5] : List Int)[j]?.getD 0)) := by
  intro j hj
  subst hk
  rw [World.cell?_alloc_at _ _ _ _ rfl]
  have : j = 0 ∨ j = 1 ∨ j = 2 ∨ j = 3 ∨ j = 4 := by omega
  rcases this with rfl | rfl | rfl | rfl | rfl <;> rfl
set_option maxRecDepth 100000 in
theorem alive (w : World) (htab : TabNow w) : Calls Tryd.prog 8 #[] w fun e w' => e = .returned (.bool true) ∧ Below w.heap.size w w' := by
  have ht := hid htab
  clear htab
  have hv1 := alive_val.1
  have hv2 := alive_val.2
  have hnm : nmB 5 = ⟨#[115, 101, 110, 116]⟩ := rfl
  go_enter Tryd.func8, Tryd.ntmps8
  go_wp2_with (first
    | (go_at_call 10; refine (run_at 0 _ _ 5 _ [0, 1, 2, 4, 5] _ rfl (by omega) (alive_cells _ _ rfl _)).mono ?_; rintro e w' ⟨rfl, rfl⟩)
    | (go_at_call 11; refine (string_yes 5 _ (by omega) (by omega) (tab_later ht.out ((Below.refl _ _).alloc (Nat.le_refl _) _))).mono ?_; rintro e w' ⟨rfl, hb⟩))
  go_ret
  exact ⟨rfl, ((Below.refl _ _).alloc (Nat.le_refl _) _).trans (hb.mono (by simp))⟩
end Go.Proofs.YtgbjbmakjilddabDoor.St
