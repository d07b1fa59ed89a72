import Derived.Test.YtncgpalklmdgdaaDoorShelf
import Derived.Outline
import Derived.WalkKit
import Derived.KernelRfl
import Derived.Lib.Hide
import Derived.Lib.SmallJoins
namespace Go.Proofs.YtncgpalklmdgdaaDoor.OldW
open Go.ChangeShapes Go.WideShapes Go.ChangeAt Go.RowKit Go.Joins
set_option linter.unusedVariables false
set_option maxRecDepth 100000
theorem hid {p : Prop} (h : p) : Hid p := h
def sp : ByteArray := ⟨#[32]⟩
def t1 : ByteArray := ⟨#[115, 116, 97, 116, 101, 32, 116, 97, 103, 115, 32, 115, 116, 114, 101, 97, 109, 115, 32, 97, 100, 100, 114, 101, 115, 115, 101, 115, 32, 114, 97, 110, 100, 111, 109, 115, 32, 99, 111, 111, 107, 105, 101, 32, 119, 105, 110, 100, 111, 119, 32, 112, 97, 116, 104, 115, 32, 113, 117, 101, 117, 101, 32, 105, 110, 98, 111, 120, 32, 116, 105, 109, 101, 114, 115, 32, 99, 111, 117, 110, 116, 115]⟩
def t2 : ByteArray := ⟨#[114, 101, 99, 111, 118, 101, 114, 121, 32, 109, 105, 115, 115, 101, 100]⟩
def t3 : ByteArray := ⟨#[100, 114, 97, 119, 110, 32, 115, 101, 114, 105, 97, 108, 115, 32, 111, 112, 115]⟩
def n1 : List ByteArray := [⟨#[115, 116, 97, 116, 101]⟩, ⟨#[116, 97, 103, 115]⟩, ⟨#[115, 116, 114, 101, 97, 109, 115]⟩, ⟨#[97, 100, 100, 114, 101, 115, 115, 101, 115]⟩, ⟨#[114, 97, 110, 100, 111, 109, 115]⟩, ⟨#[99, 111, 111, 107, 105, 101]⟩, ⟨#[119, 105, 110, 100, 111, 119]⟩, ⟨#[112, 97, 116, 104, 115]⟩, ⟨#[113, 117, 101, 117, 101]⟩, ⟨#[105, 110, 98, 111, 120]⟩, ⟨#[116, 105, 109, 101, 114, 115]⟩, ⟨#[99, 111, 117, 110, 116, 115]⟩]
def n2 : List ByteArray := [⟨#[114, 101, 99, 111, 118, 101, 114, 121]⟩, ⟨#[109, 105, 115, 115, 101, 100]⟩]
def n3 : List ByteArray := [⟨#[100, 114, 97, 119, 110]⟩, ⟨#[115, 101, 114, 105, 97, 108, 115]⟩, ⟨#[111, 112, 115]⟩]
def l12 : List ByteArray := n1 ++ n2
def l123 : List ByteArray := n1 ++ (n2 ++ n3)
def l23 : List ByteArray := n2 ++ n3
/-- Strings in a row. -/
def Strs (w : World) (v : Value) (xs : List ByteArray) : Prop := ∃ A c, v = .slice A xs.length c ∧ xs.length ≤ c ∧ ∀ j x, xs[j]? = some x → ∃ b o, A = some ⟨b, o, none⟩ ∧ w.cell? ⟨b, o + j, none⟩ = some (.string x)
theorem Strs.later {w w' : World} {v : Value} {xs : List ByteArray} (h : Strs w v xs) (hb : Below w.heap.size w w') : Strs w' v xs := by
  obtain ⟨A, c, e, hc, hx⟩ := h
  refine ⟨A, c, e, hc, fun j x hj => ?_⟩
  obtain ⟨b, o, ea, hcell⟩ := hx j x hj
  exact ⟨b, o, ea, (hb.cell (p := ⟨b, o + j, none⟩) (World.block_lt_of_cell? w _ hcell)).trans hcell⟩
theorem Strs.new (w : World) (xs : List ByteArray) (t : TypeId) : Strs (w.alloc (.cells (xs.map Value.string).toArray t)) (.slice (some ⟨w.heap.size, 0, none⟩) xs.length xs.length) xs :=
  ⟨_, _, rfl, Nat.le_refl _, fun j x hj => ⟨_, _, rfl, by rw [Nat.zero_add, World.cell?_alloc_new]; simp [hj]⟩⟩
theorem known_calls (v : Int) (w : World) : Calls Tryd.prog 9 #[.int .i64 v] w fun e w' => e = .returned (.bool (decide (1 ≤ v) && decide (v ≤ 3))) ∧ w = w' := by
  by_cases h1 : 1 ≤ v
  · by_cases h2 : v ≤ 3
    · rw [decide_eq_true h1, decide_eq_true h2]
      go_enter Tryd.func9, Tryd.ntmps9
      go_wp2
      go_ret
      exact ⟨rfl, rfl⟩
    · rw [decide_eq_false h2, Bool.and_false]
      go_enter Tryd.func9, Tryd.ntmps9
      go_wp2
      go_ret
      exact ⟨rfl, rfl⟩
  · rw [decide_eq_false h1, Bool.false_and]
    go_enter Tryd.func9, Tryd.ntmps9
    go_wp2
    go_ret
    exact ⟨rfl, rfl⟩
theorem names_calls (w : World) : Calls Tryd.prog 12 #[] w fun e w' => e = .returned (.slice (some ⟨w.heap.size, 0, none⟩) 3 3) ∧ w' = w.alloc (.cells #[.string t1, .string t2, .string t3] 9) := by
  go_enter Tryd.func12, Tryd.ntmps12
  go_wp2
  go_ret
  exact ⟨rfl, rfl⟩
def tells1_text : ByteArray := ⟨#[115, 116, 97, 116, 101, 32, 116, 97, 103, 115, 32, 115, 116, 114, 101, 97, 109, 115, 32, 97, 100, 100, 114, 101, 115, 115, 101, 115, 32, 114, 97, 110, 100, 111, 109, 115, 32, 99, 111, 111, 107, 105, 101, 32, 119, 105, 110, 100, 111, 119, 32, 112, 97, 116, 104, 115, 32, 113, 117, 101, 117, 101, 32, 105, 110, 98, 111, 120, 32, 116, 105, 109, 101, 114, 115, 32, 99, 111, 117, 110, 116, 115]⟩
theorem tells1_join : (⟨(Lib.join (([t1] : List ByteArray).map (·.data.toList)) sp.data.toList).toArray⟩ : ByteArray) = tells1_text := by kernel_rfl
theorem tells1_split : Lib.splitB sp 0 (Lib.countB tells1_text sp) tells1_text = n1 := by kernel_rfl
theorem tells1_count : Lib.countB tells1_text sp + 1 = (n1).length := by kernel_rfl
theorem tells1_calls (m : Int) (w : World) (hm : w.cell? ⟨0, 0, none⟩ = some (.int .i64 m)) :
    Calls Tryd.prog 5 #[.int .i64 1] w fun e w' => ∃ r, e = .returned r ∧ Strs w' r (n1) ∧ Below w.heap.size w w' := by
  have hM := hid hm
  clear hm
  go_enter Tryd.func5, Tryd.ntmps5
  go_wp2_with (first
    | (go_at_call 9; refine (known_calls _ _).mono ?_; rintro e w' ⟨rfl, rfl⟩)
    | (go_at_call 12; refine (names_calls _).mono ?_; rintro e w' ⟨rfl, rfl⟩)
    | (go_at_call 11; go_loud (refine (Tryd.strings_Join w.heap.size 0 3 [t1] sp _ ?hc ?hb ?hN ?hp ?hl).mono ?_)))
  case hc =>
    intro j x hj
    match j, hj with
    | 0, hj => cases hj; exact (World.cell?_alloc_new _ _ _ _).trans rfl
    | j + 1, hj => simp at hj
  case hb => simp
  case hN => decide
  case hp => decide
  case hl => rw [show (Lib.join (([t1] : List ByteArray).map (·.data.toList)) sp.data.toList).length = 82 by kernel_rfl]; decide
  rintro e w1 ⟨rfl, hb⟩
  have hb1 : Below w.heap.size w w1 := ((Below.refl _ w).alloc (Nat.le_refl _) _).trans (hb.mono (by simp))
  have hm1 : w1.cell? ⟨0, 0, none⟩ = some (.int .i64 m) := (hb1.cell (p := ⟨0, 0, none⟩) (World.block_lt_of_cell? w _ hM.out)).trans hM.out
  have HB := hid hb1
  have HM := hid hm1
  clear hb hb1 hm1
  rw [tells1_join]
  go_wp2_with (go_at_call 10; refine (Tryd.strings_Split tells1_text sp m _ (by rw [show tells1_text.size = 82 by kernel_rfl]; decide) HM.out (by decide)).mono ?_)
  rintro e w2 ⟨rfl, rfl⟩
  rw [tells1_split, tells1_count]
  go_wp2
  go_ret
  exact ⟨_, rfl, Strs.new _ _ _, HB.out.alloc HB.out.size _⟩
def tells2_text : ByteArray := ⟨#[115, 116, 97, 116, 101, 32, 116, 97, 103, 115, 32, 115, 116, 114, 101, 97, 109, 115, 32, 97, 100, 100, 114, 101, 115, 115, 101, 115, 32, 114, 97, 110, 100, 111, 109, 115, 32, 99, 111, 111, 107, 105, 101, 32, 119, 105, 110, 100, 111, 119, 32, 112, 97, 116, 104, 115, 32, 113, 117, 101, 117, 101, 32, 105, 110, 98, 111, 120, 32, 116, 105, 109, 101, 114, 115, 32, 99, 111, 117, 110, 116, 115, 32, 114, 101, 99, 111, 118, 101, 114, 121, 32, 109, 105, 115, 115, 101, 100]⟩
theorem tells2_join : (⟨(Lib.join (([t1, t2] : List ByteArray).map (·.data.toList)) sp.data.toList).toArray⟩ : ByteArray) = tells2_text := by kernel_rfl
theorem tells2_split : Lib.splitB sp 0 (Lib.countB tells2_text sp) tells2_text = l12 := by kernel_rfl
theorem tells2_count : Lib.countB tells2_text sp + 1 = (l12).length := by kernel_rfl
theorem tells2_calls (m : Int) (w : World) (hm : w.cell? ⟨0, 0, none⟩ = some (.int .i64 m)) :
    Calls Tryd.prog 5 #[.int .i64 2] w fun e w' => ∃ r, e = .returned r ∧ Strs w' r (l12) ∧ Below w.heap.size w w' := by
  have hM := hid hm
  clear hm
  go_enter Tryd.func5, Tryd.ntmps5
  go_wp2_with (first
    | (go_at_call 9; refine (known_calls _ _).mono ?_; rintro e w' ⟨rfl, rfl⟩)
    | (go_at_call 12; refine (names_calls _).mono ?_; rintro e w' ⟨rfl, rfl⟩)
    | (go_at_call 11; go_loud (refine (Tryd.strings_Join w.heap.size 0 3 [t1, t2] sp _ ?hc ?hb ?hN ?hp ?hl).mono ?_)))
  case hc =>
    intro j x hj
    match j, hj with
    | 0, hj => cases hj; exact (World.cell?_alloc_new _ _ _ _).trans rfl
    | 1, hj => cases hj; exact (World.cell?_alloc_new _ _ _ _).trans rfl
    | j + 2, hj => simp at hj
  case hb => simp
  case hN => decide
  case hp => decide
  case hl => rw [show (Lib.join (([t1, t2] : List ByteArray).map (·.data.toList)) sp.data.toList).length = 98 by kernel_rfl]; decide
  rintro e w1 ⟨rfl, hb⟩
  have hb1 : Below w.heap.size w w1 := ((Below.refl _ w).alloc (Nat.le_refl _) _).trans (hb.mono (by simp))
  have hm1 : w1.cell? ⟨0, 0, none⟩ = some (.int .i64 m) := (hb1.cell (p := ⟨0, 0, none⟩) (World.block_lt_of_cell? w _ hM.out)).trans hM.out
  have HB := hid hb1
  have HM := hid hm1
  clear hb hb1 hm1
  rw [tells2_join]
  go_wp2_with (go_at_call 10; refine (Tryd.strings_Split tells2_text sp m _ (by rw [show tells2_text.size = 98 by kernel_rfl]; decide) HM.out (by decide)).mono ?_)
  rintro e w2 ⟨rfl, rfl⟩
  rw [tells2_split, tells2_count]
  go_wp2
  go_ret
  exact ⟨_, rfl, Strs.new _ _ _, HB.out.alloc HB.out.size _⟩
def tells3_text : ByteArray := ⟨#[115, 116, 97, 116, 101, 32, 116, 97, 103, 115, 32, 115, 116, 114, 101, 97, 109, 115, 32, 97, 100, 100, 114, 101, 115, 115, 101, 115, 32, 114, 97, 110, 100, 111, 109, 115, 32, 99, 111, 111, 107, 105, 101, 32, 119, 105, 110, 100, 111, 119, 32, 112, 97, 116, 104, 115, 32, 113, 117, 101, 117, 101, 32, 105, 110, 98, 111, 120, 32, 116, 105, 109, 101, 114, 115, 32, 99, 111, 117, 110, 116, 115, 32, 114, 101, 99, 111, 118, 101, 114, 121, 32, 109, 105, 115, 115, 101, 100, 32, 100, 114, 97, 119, 110, 32, 115, 101, 114, 105, 97, 108, 115, 32, 111, 112, 115]⟩
theorem tells3_join : (⟨(Lib.join (([t1, t2, t3] : List ByteArray).map (·.data.toList)) sp.data.toList).toArray⟩ : ByteArray) = tells3_text := by kernel_rfl
theorem tells3_split : Lib.splitB sp 0 (Lib.countB tells3_text sp) tells3_text = l123 := by kernel_rfl
theorem tells3_count : Lib.countB tells3_text sp + 1 = (l123).length := by kernel_rfl
theorem tells3_calls (m : Int) (w : World) (hm : w.cell? ⟨0, 0, none⟩ = some (.int .i64 m)) :
    Calls Tryd.prog 5 #[.int .i64 3] w fun e w' => ∃ r, e = .returned r ∧ Strs w' r (l123) ∧ Below w.heap.size w w' := by
  have hM := hid hm
  clear hm
  go_enter Tryd.func5, Tryd.ntmps5
  go_wp2_with (first
    | (go_at_call 9; refine (known_calls _ _).mono ?_; rintro e w' ⟨rfl, rfl⟩)
    | (go_at_call 12; refine (names_calls _).mono ?_; rintro e w' ⟨rfl, rfl⟩)
    | (go_at_call 11; go_loud (refine (Tryd.strings_Join w.heap.size 0 3 [t1, t2, t3] sp _ ?hc ?hb ?hN ?hp ?hl).mono ?_)))
  case hc =>
    intro j x hj
    match j, hj with
    | 0, hj => cases hj; exact (World.cell?_alloc_new _ _ _ _).trans rfl
    | 1, hj => cases hj; exact (World.cell?_alloc_new _ _ _ _).trans rfl
    | 2, hj => cases hj; exact (World.cell?_alloc_new _ _ _ _).trans rfl
    | j + 3, hj => simp at hj
  case hb => simp
  case hN => decide
  case hp => decide
  case hl => rw [show (Lib.join (([t1, t2, t3] : List ByteArray).map (·.data.toList)) sp.data.toList).length = 116 by kernel_rfl]; decide
  rintro e w1 ⟨rfl, hb⟩
  have hb1 : Below w.heap.size w w1 := ((Below.refl _ w).alloc (Nat.le_refl _) _).trans (hb.mono (by simp))
  have hm1 : w1.cell? ⟨0, 0, none⟩ = some (.int .i64 m) := (hb1.cell (p := ⟨0, 0, none⟩) (World.block_lt_of_cell? w _ hM.out)).trans hM.out
  have HB := hid hb1
  have HM := hid hm1
  clear hb hb1 hm1
  rw [tells3_join]
  go_wp2_with (go_at_call 10; refine (Tryd.strings_Split tells3_text sp m _ (by rw [show tells3_text.size = 116 by kernel_rfl]; decide) HM.out (by decide)).mono ?_)
  rintro e w2 ⟨rfl, rfl⟩
  rw [tells3_split, tells3_count]
  go_wp2
  go_ret
  exact ⟨_, rfl, Strs.new _ _ _, HB.out.alloc HB.out.size _⟩
def lacks1_text : ByteArray := ⟨#[114, 101, 99, 111, 118, 101, 114, 121, 32, 109, 105, 115, 115, 101, 100, 32, 100, 114, 97, 119, 110, 32, 115, 101, 114, 105, 97, 108, 115, 32, 111, 112, 115]⟩
theorem lacks1_join : (⟨(Lib.join (([t2, t3] : List ByteArray).map (·.data.toList)) sp.data.toList).toArray⟩ : ByteArray) = lacks1_text := by kernel_rfl
theorem lacks1_split : Lib.splitB sp 0 (Lib.countB lacks1_text sp) lacks1_text = l23 := by kernel_rfl
theorem lacks1_count : Lib.countB lacks1_text sp + 1 = (l23).length := by kernel_rfl
theorem lacks1_calls (m : Int) (w : World) (hm : w.cell? ⟨0, 0, none⟩ = some (.int .i64 m)) :
    Calls Tryd.prog 6 #[.int .i64 1] w fun e w' => ∃ r, e = .returned r ∧ Strs w' r (l23) ∧ Below w.heap.size w w' := by
  have hM := hid hm
  clear hm
  go_enter Tryd.func6, Tryd.ntmps6
  go_wp2_with (first
    | (go_at_call 9; refine (known_calls _ _).mono ?_; rintro e w' ⟨rfl, rfl⟩)
    | (go_at_call 12; refine (names_calls _).mono ?_; rintro e w' ⟨rfl, rfl⟩)
    | (go_at_call 11; go_loud (refine (Tryd.strings_Join w.heap.size 1 2 [t2, t3] sp _ ?hc ?hb ?hN ?hp ?hl).mono ?_)))
  case hc =>
    intro j x hj
    match j, hj with
    | 0, hj => cases hj; exact (World.cell?_alloc_new _ _ _ _).trans rfl
    | 1, hj => cases hj; exact (World.cell?_alloc_new _ _ _ _).trans rfl
    | j + 2, hj => simp at hj
  case hb => simp
  case hN => decide
  case hp => decide
  case hl => rw [show (Lib.join (([t2, t3] : List ByteArray).map (·.data.toList)) sp.data.toList).length = 33 by kernel_rfl]; decide
  rintro e w1 ⟨rfl, hb⟩
  have hb1 : Below w.heap.size w w1 := ((Below.refl _ w).alloc (Nat.le_refl _) _).trans (hb.mono (by simp))
  have hm1 : w1.cell? ⟨0, 0, none⟩ = some (.int .i64 m) := (hb1.cell (p := ⟨0, 0, none⟩) (World.block_lt_of_cell? w _ hM.out)).trans hM.out
  have HB := hid hb1
  have HM := hid hm1
  clear hb hb1 hm1
  rw [lacks1_join]
  go_wp2_with (go_at_call 10; refine (Tryd.strings_Split lacks1_text sp m _ (by rw [show lacks1_text.size = 33 by kernel_rfl]; decide) HM.out (by decide)).mono ?_)
  rintro e w2 ⟨rfl, rfl⟩
  rw [lacks1_split, lacks1_count]
  go_wp2
  go_ret
  exact ⟨_, rfl, Strs.new _ _ _, HB.out.alloc HB.out.size _⟩
def lacks2_text : ByteArray := ⟨#[100, 114, 97, 119, 110, 32, 115, 101, 114, 105, 97, 108, 115, 32, 111, 112, 115]⟩
theorem lacks2_join : (⟨(Lib.join (([t3] : List ByteArray).map (·.data.toList)) sp.data.toList).toArray⟩ : ByteArray) = lacks2_text := by kernel_rfl
theorem lacks2_split : Lib.splitB sp 0 (Lib.countB lacks2_text sp) lacks2_text = n3 := by kernel_rfl
theorem lacks2_count : Lib.countB lacks2_text sp + 1 = (n3).length := by kernel_rfl
theorem lacks2_calls (m : Int) (w : World) (hm : w.cell? ⟨0, 0, none⟩ = some (.int .i64 m)) :
    Calls Tryd.prog 6 #[.int .i64 2] w fun e w' => ∃ r, e = .returned r ∧ Strs w' r (n3) ∧ Below w.heap.size w w' := by
  have hM := hid hm
  clear hm
  go_enter Tryd.func6, Tryd.ntmps6
  go_wp2_with (first
    | (go_at_call 9; refine (known_calls _ _).mono ?_; rintro e w' ⟨rfl, rfl⟩)
    | (go_at_call 12; refine (names_calls _).mono ?_; rintro e w' ⟨rfl, rfl⟩)
    | (go_at_call 11; go_loud (refine (Tryd.strings_Join w.heap.size 2 1 [t3] sp _ ?hc ?hb ?hN ?hp ?hl).mono ?_)))
  case hc =>
    intro j x hj
    match j, hj with
    | 0, hj => cases hj; exact (World.cell?_alloc_new _ _ _ _).trans rfl
    | j + 1, hj => simp at hj
  case hb => simp
  case hN => decide
  case hp => decide
  case hl => rw [show (Lib.join (([t3] : List ByteArray).map (·.data.toList)) sp.data.toList).length = 17 by kernel_rfl]; decide
  rintro e w1 ⟨rfl, hb⟩
  have hb1 : Below w.heap.size w w1 := ((Below.refl _ w).alloc (Nat.le_refl _) _).trans (hb.mono (by simp))
  have hm1 : w1.cell? ⟨0, 0, none⟩ = some (.int .i64 m) := (hb1.cell (p := ⟨0, 0, none⟩) (World.block_lt_of_cell? w _ hM.out)).trans hM.out
  have HB := hid hb1
  have HM := hid hm1
  clear hb hb1 hm1
  rw [lacks2_join]
  go_wp2_with (go_at_call 10; refine (Tryd.strings_Split lacks2_text sp m _ (by rw [show lacks2_text.size = 17 by kernel_rfl]; decide) HM.out (by decide)).mono ?_)
  rintro e w2 ⟨rfl, rfl⟩
  rw [lacks2_split, lacks2_count]
  go_wp2
  go_ret
  exact ⟨_, rfl, Strs.new _ _ _, HB.out.alloc HB.out.size _⟩
theorem none_calls5 (v : Int) (w : World) (h : ¬ (1 ≤ v ∧ v ≤ 3)) : Calls Tryd.prog 5 #[.int .i64 v] w fun e w' => e = .returned (.slice none 0 0) ∧ w = w' := by
  have hk : (decide (1 ≤ v) && decide (v ≤ 3)) = false := by
    rw [← Bool.decide_and]
    exact decide_eq_false h
  have HK := hid hk
  clear hk h
  go_enter Tryd.func5, Tryd.ntmps5
  go_wp2_with (go_at_call 9; refine (known_calls _ _).mono ?_; rintro e w' ⟨rfl, rfl⟩; rw [HK.out])
  go_ret
  exact ⟨rfl, rfl⟩
theorem none_calls6 (v : Int) (w : World) (h : ¬ (1 ≤ v ∧ v ≤ 3)) : Calls Tryd.prog 6 #[.int .i64 v] w fun e w' => e = .returned (.slice none 0 0) ∧ w = w' := by
  have hk : (decide (1 ≤ v) && decide (v ≤ 3)) = false := by
    rw [← Bool.decide_and]
    exact decide_eq_false h
  have HK := hid hk
  clear hk h
  go_enter Tryd.func6, Tryd.ntmps6
  go_wp2_with (go_at_call 9; refine (known_calls _ _).mono ?_; rintro e w' ⟨rfl, rfl⟩; rw [HK.out])
  go_ret
  exact ⟨rfl, rfl⟩
theorem lacks3_calls (w : World) : Calls Tryd.prog 6 #[.int .i64 3] w fun e w' => e = .returned (.slice none 0 0) ∧ w = w' := by
  go_enter Tryd.func6, Tryd.ntmps6
  go_wp2_with (go_at_call 9; refine (known_calls _ _).mono ?_; rintro e w' ⟨rfl, rfl⟩)
  go_ret
  exact ⟨rfl, rfl⟩
theorem names1_calls (w : World) : Calls Tryd.prog 13 #[.int .i64 1] w fun e w' => e = .returned (.slice (some ⟨w.heap.size, 0, none⟩) 12 12) ∧ w' = w.alloc (.cells (n1.map Value.string).toArray 9) := by
  go_enter Tryd.func13, Tryd.ntmps13
  go_wp2
  go_ret
  exact ⟨rfl, rfl⟩
theorem names2_calls (w : World) : Calls Tryd.prog 13 #[.int .i64 2] w fun e w' => e = .returned (.slice (some ⟨w.heap.size, 0, none⟩) 2 2) ∧ w' = w.alloc (.cells (n2.map Value.string).toArray 9) := by
  go_enter Tryd.func13, Tryd.ntmps13
  go_wp2
  go_ret
  exact ⟨rfl, rfl⟩
theorem names3_calls (w : World) : Calls Tryd.prog 13 #[.int .i64 3] w fun e w' => e = .returned (.slice (some ⟨w.heap.size, 0, none⟩) 3 3) ∧ w' = w.alloc (.cells (n3.map Value.string).toArray 9) := by
  go_enter Tryd.func13, Tryd.ntmps13
  go_wp2
  go_ret
  exact ⟨rfl, rfl⟩
/-- Two rows of the same strings. -/
theorem same_calls (v1 v2 : Value) (xs : List ByteArray) (w : World) (h1 : Strs w v1 xs) (h2 : Strs w v2 xs) (hl : xs.length ≤ 1000) : Calls Tryd.prog 7 #[v1, v2] w fun e w' => e = .returned (.bool true) ∧ Below w.heap.size w w' := by
  obtain ⟨A, c, rfl, _, hA⟩ := h1
  obtain ⟨B, d, rfl, _, hB⟩ := h2
  have HA := hid hA
  have HB := hid hB
  clear hA hB
  go_enter Tryd.func7, Tryd.ntmps7
  go_wp2
  go_loopw [13] (fun i wr => ∃ k : Nat, k ≤ xs.length ∧ i = .int .i64 k ∧ Hid (∃ m, wr = w.drewN m)) (fun v _ => xs.length - (Lib.intOf v).toNat)
  case atStart => exact ⟨0, Nat.zero_le _, rfl, hid ⟨0, rfl⟩⟩
  case round =>
    obtain ⟨k, hk, rfl, HW⟩ := hrel
    by_cases hlt : k < xs.length
    · obtain ⟨x, hx⟩ : ∃ x, xs[k]? = some x := ⟨_, List.getElem?_eq_getElem hlt⟩
      obtain ⟨b, o, rfl, c1⟩ := HA.out k x hx
      obtain ⟨b', o', rfl, c2⟩ := HB.out k x hx
      obtain ⟨m, rfl⟩ := HW.out
      have hq : (k : Int).toNat = k := Int.toNat_natCast k
      clear hx HW
      go_wp2
      go_quiet (fail)
      go_wp2
      go_roundw
      case rel => exact ⟨k + 1, by omega, by go_num, hid ⟨_, rfl⟩⟩
      case measure => simp [Lib.intOf]; omega
    · obtain rfl : k = xs.length := by omega
      go_wp2
      go_ret
      obtain ⟨m, rfl⟩ := HW.out
      exact ⟨rfl, below_draws _ _ _⟩
def nm (v : Nat) : List ByteArray := if v = 1 then n1 else if v = 2 then n2 else if v = 3 then n3 else []
theorem nm_len (v : Nat) : (nm v).length ≤ 12 := by
  unfold nm
  split
  · decide
  · split
    · decide
    · split
      · decide
      · decide
theorem names_any (v : Nat) (h1 : 1 ≤ v) (h3 : v ≤ 3) (w : World) : Calls Tryd.prog 13 #[.int .i64 v] w fun e w' => e = .returned (.slice (some ⟨w.heap.size, 0, none⟩) (nm v).length (nm v).length) ∧ w' = w.alloc (.cells ((nm v).map Value.string).toArray 9) := by
  match v, h1, h3 with
  | 1, _, _ => exact names1_calls w
  | 2, _, _ => exact names2_calls w
  | 3, _, _ => exact names3_calls w
  | v + 4, _, h => omega
def acc (f : Nat) : Nat → List ByteArray
  | 0 => []
  | d + 1 => acc f d ++ nm (f + d)
theorem acc_len (f : Nat) : ∀ d, (acc f d).length ≤ 12 * d
  | 0 => Nat.le_refl _
  | d + 1 => by
    have h1 := acc_len f d
    have h2 := nm_len (f + d)
    show (acc f d ++ nm (f + d)).length ≤ _
    rw [List.length_append]
    omega
theorem strs_of_own {w : World} {base : Nat} {v : Value} {xs : List ByteArray} (h : w.ownsRow base 9 1 v xs.length (xs.map Value.string)) : Strs w v xs := by
  rcases h.2 with ⟨rfl, h0⟩ | ⟨g, cap, cur, rfl, _, _, hc, _⟩
  · have hx : xs = [] := List.eq_nil_of_length_eq_zero h0
    subst hx
    exact ⟨none, 0, rfl, Nat.le_refl _, fun j x hj => by simp at hj⟩
  · refine ⟨some ⟨g, 0, none⟩, cap, rfl, hc, fun j x hj => ⟨g, 0, rfl, ?_⟩⟩
    have := h.cells (g := g) rfl j (.string x) (by simp [hj])
    rwa [WideShapes.add_plain] at this
theorem info9 : (Tryd.prog.info? 9).map (fun i => (i.zero, i.size, i.bytes)) = some (some (.string ByteArray.empty), 1, 16) := by kernel_rfl
theorem reft_calls (f t : Nat) (hf : 1 ≤ f) (hf4 : f ≤ 4) (ht : t ≤ 3) (ht1 : 1 ≤ t) (w : World) : Calls Tryd.prog 8 #[.int .i64 f, .int .i64 t] w fun e w' => ∃ r, e = .returned r ∧ Strs w' r (acc f (t + 1 - f)) ∧ Below w.heap.size w w' := by
  obtain ⟨i0, hi, hz⟩ := Option.map_eq_some_iff.1 info9
  simp only [Prod.mk.injEq] at hz
  have I9 := hid (And.intro hi hz)
  clear hi hz
  go_enter Tryd.func8, Tryd.ntmps8
  go_wp2
  go_loopw [5, 6] (fun v5 v6 wx => ∃ d : Nat, d ≤ t + 1 - f ∧ v6 = .int .i64 ((f + d : Nat) : Int) ∧ Hid (wx.ownsRow w.heap.size 9 1 v5 (acc f d).length ((acc f d).map Value.string)) ∧ Hid (Below w.heap.size w wx)) (fun _ v6 _ => t + 1 - (Lib.intOf v6).toNat)
  case atStart => exact ⟨0, Nat.zero_le _, rfl, hid (World.ownsRow_nil _ _ _ _), hid (Below.refl _ _)⟩
  case round =>
    obtain ⟨d, hd, rfl, HO, HB⟩ := hrel
    have hal := acc_len f d
    have hnl := nm_len (f + d)
    obtain ⟨q, hq⟩ : ∃ q : Nat, q = f + d := ⟨_, rfl⟩
    rw [← hq] at hnl ⊢
    by_cases hlt : q ≤ t
    · have HQ := hid hq
      clear hq
      go_wp2_with (first
        | (go_at_call 13; refine (names_any q (by have := HQ.out; omega) (by omega) _).mono ?_; rintro e w1 ⟨rfl, hw1⟩; rw [hw1]; clear hw1)
        | (at_builtin; go_loud (refine wpList_append_own _ rfl _ _ 23 rfl w.heap.size 9 i0 (.string ByteArray.empty) 1 16 Tryd.underlying23 I9.out.1 I9.out.2.1 I9.out.2.2.1 I9.out.2.2.2 rfl (by decide) _ _ _ rfl (HO.out.alloc _) ⟨wr.heap.size, 0, none⟩ (nm q).length (nm q).length ((nm q).map Value.string) rfl (by simp) ?hn ?h1 ?b1 ?b2 ?b3 ?_)))
      case hn =>
        intro j u hj
        rw [WideShapes.add_plain, Nat.zero_add, World.cell?_alloc_new]
        simpa using hj
      case h1 => intro u hu; obtain ⟨x, _, rfl⟩ := List.mem_map.1 hu; rfl
      case b1 => unfold maxLen; omega
      case b2 => omega
      case b3 => have := HB.out.size; simp; omega
      intro v' w' hown hg _
      have hown' : w'.ownsRow w.heap.size 9 1 v' (acc f (d + 1)).length ((acc f (d + 1)).map Value.string) := by
        have hacc : acc f (d + 1) = acc f d ++ nm q := by rw [HQ.out]; rfl
        rw [hacc, List.length_append, List.map_append]
        exact hown
      have hb' : Below w.heap.size w w' := (HB.out.alloc HB.out.size _).grown hg (by have := HB.out.size; simp; omega) (fun k hk => (HO.out.lt k hk).1)
      have HO' := hid hown'
      have HB' := hid hb'
      clear hown hown' hg hb'
      go_wp2
      go_roundw
      case rel => exact ⟨d + 1, by have := HQ.out; omega, by have := HQ.out; rw [show f + (d + 1) = q + 1 by omega]; go_num, HO', HB'⟩
      case measure => simp [Lib.intOf]; omega
    · have hde : d = t + 1 - f := by omega
      have HDE := hid hde
      clear hde
      go_wp2
      go_ret
      refine ⟨_, rfl, ?_, HB.out⟩
      have := strs_of_own HO.out
      rw [HDE.out] at this
      exact this
theorem strs_nil (w : World) : Strs w (.slice none 0 0) [] := ⟨none, 0, rfl, Nat.le_refl _, fun j x hj => by simp at hj⟩
theorem alive_calls (m : Int) (w : World) (hm : w.cell? ⟨0, 0, none⟩ = some (.int .i64 m)) : Calls Tryd.prog 4 #[] w fun e w' => e = .returned (.bool true) ∧ Below w.heap.size w w' := by
  have hM := hid hm
  clear hm
  go_enter Tryd.func4, Tryd.ntmps4
  go_wp2_with (go_at_call 6; refine (lacks2_calls m _ hM.out).mono ?_)
  rintro e w1 ⟨r, rfl, hS, hB⟩
  obtain ⟨A, c, rfl, hc, hx⟩ := hS
  obtain ⟨b, o, rfl, c0⟩ := hx 0 ⟨#[100, 114, 97, 119, 110]⟩ rfl
  rw [Nat.add_zero] at c0
  obtain ⟨b', o', e', c2⟩ := hx 2 ⟨#[111, 112, 115]⟩ rfl
  cases e'
  have hl : n3.length = 3 := by kernel_rfl
  rw [hl] at hc ⊢
  have hm1 := hid ((hB.cell (p := ⟨0, 0, none⟩) (World.block_lt_of_cell? w _ hM.out)).trans hM.out)
  have HB := hid hB
  clear hx hB hl
  go_wp2_with (go_at_call 5; refine (tells3_calls m _ hm1.out).mono ?_)
  rintro e w2 ⟨r, rfl, ⟨A2, c2', rfl, _, _⟩, hB2⟩
  have hl2 : l123.length = 17 := by kernel_rfl
  rw [hl2]
  have hfin := hid (HB.out.trans (hB2.mono HB.out.size))
  clear hB2 hl2
  go_wp2
  go_ret
  exact ⟨rfl, hfin.out⟩
theorem law1 (m : Int) (w : World) (hm : w.cell? ⟨0, 0, none⟩ = some (.int .i64 m)) : Calls Tryd.prog 3 #[.int .i64 1] w fun e w' => e = .returned (.bool true) ∧ Below w.heap.size w w' := by
  have hM := hid hm
  clear hm
  go_enter Tryd.func3, Tryd.ntmps3
  go_wp2_with (go_at_call 4; refine (alive_calls m _ hM.out).mono ?_)
  rintro e w1 ⟨rfl, hB⟩
  have hM := hid ((hB.cell (p := ⟨0, 0, none⟩) (World.block_lt_of_cell? w _ hM.out)).trans hM.out)
  have HB := hid hB
  clear hB
  go_wp2_with (go_at_call 5; refine (tells1_calls m _ hM.out).mono ?_)
  rintro e w2 ⟨r, rfl, hS, hB⟩
  have hM := hid ((hB.cell (p := ⟨0, 0, none⟩) (World.block_lt_of_cell? _ _ hM.out)).trans hM.out)
  have HB := hid (HB.out.trans (hB.mono HB.out.size))
  have HS := hid hS
  clear hB hS
  go_wp2_with (go_at_call 8; refine (reft_calls 1 1 (by decide) (by decide) (by decide) (by decide) _).mono ?_)
  rintro e w3 ⟨r', rfl, hS', hB⟩
  rw [show acc 1 (1 + 1 - 1) = n1 by kernel_rfl] at hS'
  have hM := hid ((hB.cell (p := ⟨0, 0, none⟩) (World.block_lt_of_cell? _ _ hM.out)).trans hM.out)
  have HB := hid (HB.out.trans (hB.mono HB.out.size))
  have HS := hid (HS.out.later hB)
  have HS' := hid hS'
  clear hB hS'
  go_wp2_with (go_at_call 7; refine (same_calls _ _ _ _ HS.out HS'.out (by rw [show (n1).length = 12 by kernel_rfl]; decide)).mono ?_)
  rintro e w4 ⟨rfl, hB⟩
  have hM := hid ((hB.cell (p := ⟨0, 0, none⟩) (World.block_lt_of_cell? _ _ hM.out)).trans hM.out)
  have HB := hid (HB.out.trans (hB.mono HB.out.size))
  clear hB HS HS'
  go_wp2_with (go_at_call 6; refine (lacks1_calls m _ hM.out).mono ?_)
  rintro e w5 ⟨r, rfl, hS, hB⟩
  have HB := hid (HB.out.trans (hB.mono HB.out.size))
  have HS := hid hS
  clear hB hS
  go_wp2_with (go_at_call 8; refine (reft_calls 2 3 (by decide) (by decide) (by decide) (by decide) _).mono ?_)
  rintro e w6 ⟨r', rfl, hS', hB⟩
  rw [show acc 2 (3 + 1 - 2) = l23 by kernel_rfl] at hS'
  have HB := hid (HB.out.trans (hB.mono HB.out.size))
  have HS := hid (HS.out.later hB)
  have HS' := hid hS'
  clear hB hS'
  go_wp2_with (go_at_call 7; refine (same_calls _ _ (l23) _ HS.out HS'.out (by rw [show (l23 : List ByteArray).length = 5 by kernel_rfl]; decide)).mono ?_)
  rintro e w7 ⟨rfl, hB⟩
  have HB := hid (HB.out.trans (hB.mono HB.out.size))
  clear hB HS HS'
  go_wp2
  go_ret
  exact ⟨rfl, HB.out⟩
theorem law2 (m : Int) (w : World) (hm : w.cell? ⟨0, 0, none⟩ = some (.int .i64 m)) : Calls Tryd.prog 3 #[.int .i64 2] w fun e w' => e = .returned (.bool true) ∧ Below w.heap.size w w' := by
  have hM := hid hm
  clear hm
  go_enter Tryd.func3, Tryd.ntmps3
  go_wp2_with (go_at_call 4; refine (alive_calls m _ hM.out).mono ?_)
  rintro e w1 ⟨rfl, hB⟩
  have hM := hid ((hB.cell (p := ⟨0, 0, none⟩) (World.block_lt_of_cell? w _ hM.out)).trans hM.out)
  have HB := hid hB
  clear hB
  go_wp2_with (go_at_call 5; refine (tells2_calls m _ hM.out).mono ?_)
  rintro e w2 ⟨r, rfl, hS, hB⟩
  have hM := hid ((hB.cell (p := ⟨0, 0, none⟩) (World.block_lt_of_cell? _ _ hM.out)).trans hM.out)
  have HB := hid (HB.out.trans (hB.mono HB.out.size))
  have HS := hid hS
  clear hB hS
  go_wp2_with (go_at_call 8; refine (reft_calls 1 2 (by decide) (by decide) (by decide) (by decide) _).mono ?_)
  rintro e w3 ⟨r', rfl, hS', hB⟩
  rw [show acc 1 (2 + 1 - 1) = l12 by kernel_rfl] at hS'
  have hM := hid ((hB.cell (p := ⟨0, 0, none⟩) (World.block_lt_of_cell? _ _ hM.out)).trans hM.out)
  have HB := hid (HB.out.trans (hB.mono HB.out.size))
  have HS := hid (HS.out.later hB)
  have HS' := hid hS'
  clear hB hS'
  go_wp2_with (go_at_call 7; refine (same_calls _ _ _ _ HS.out HS'.out (by rw [show (l12).length = 14 by kernel_rfl]; decide)).mono ?_)
  rintro e w4 ⟨rfl, hB⟩
  have hM := hid ((hB.cell (p := ⟨0, 0, none⟩) (World.block_lt_of_cell? _ _ hM.out)).trans hM.out)
  have HB := hid (HB.out.trans (hB.mono HB.out.size))
  clear hB HS HS'
  go_wp2_with (go_at_call 6; refine (lacks2_calls m _ hM.out).mono ?_)
  rintro e w5 ⟨r, rfl, hS, hB⟩
  have HB := hid (HB.out.trans (hB.mono HB.out.size))
  have HS := hid hS
  clear hB hS
  go_wp2_with (go_at_call 8; refine (reft_calls 3 3 (by decide) (by decide) (by decide) (by decide) _).mono ?_)
  rintro e w6 ⟨r', rfl, hS', hB⟩
  rw [show acc 3 (3 + 1 - 3) = n3 by kernel_rfl] at hS'
  have HB := hid (HB.out.trans (hB.mono HB.out.size))
  have HS := hid (HS.out.later hB)
  have HS' := hid hS'
  clear hB hS'
  go_wp2_with (go_at_call 7; refine (same_calls _ _ (n3) _ HS.out HS'.out (by rw [show (n3 : List ByteArray).length = 3 by kernel_rfl]; decide)).mono ?_)
  rintro e w7 ⟨rfl, hB⟩
  have HB := hid (HB.out.trans (hB.mono HB.out.size))
  clear hB HS HS'
  go_wp2
  go_ret
  exact ⟨rfl, HB.out⟩
theorem law3 (m : Int) (w : World) (hm : w.cell? ⟨0, 0, none⟩ = some (.int .i64 m)) : Calls Tryd.prog 3 #[.int .i64 3] w fun e w' => e = .returned (.bool true) ∧ Below w.heap.size w w' := by
  have hM := hid hm
  clear hm
  go_enter Tryd.func3, Tryd.ntmps3
  go_wp2_with (go_at_call 4; refine (alive_calls m _ hM.out).mono ?_)
  rintro e w1 ⟨rfl, hB⟩
  have hM := hid ((hB.cell (p := ⟨0, 0, none⟩) (World.block_lt_of_cell? w _ hM.out)).trans hM.out)
  have HB := hid hB
  clear hB
  go_wp2_with (go_at_call 5; refine (tells3_calls m _ hM.out).mono ?_)
  rintro e w2 ⟨r, rfl, hS, hB⟩
  have hM := hid ((hB.cell (p := ⟨0, 0, none⟩) (World.block_lt_of_cell? _ _ hM.out)).trans hM.out)
  have HB := hid (HB.out.trans (hB.mono HB.out.size))
  have HS := hid hS
  clear hB hS
  go_wp2_with (go_at_call 8; refine (reft_calls 1 3 (by decide) (by decide) (by decide) (by decide) _).mono ?_)
  rintro e w3 ⟨r', rfl, hS', hB⟩
  rw [show acc 1 (3 + 1 - 1) = l123 by kernel_rfl] at hS'
  have hM := hid ((hB.cell (p := ⟨0, 0, none⟩) (World.block_lt_of_cell? _ _ hM.out)).trans hM.out)
  have HB := hid (HB.out.trans (hB.mono HB.out.size))
  have HS := hid (HS.out.later hB)
  have HS' := hid hS'
  clear hB hS'
  go_wp2_with (go_at_call 7; refine (same_calls _ _ _ _ HS.out HS'.out (by rw [show (l123).length = 17 by kernel_rfl]; decide)).mono ?_)
  rintro e w4 ⟨rfl, hB⟩
  have hM := hid ((hB.cell (p := ⟨0, 0, none⟩) (World.block_lt_of_cell? _ _ hM.out)).trans hM.out)
  have HB := hid (HB.out.trans (hB.mono HB.out.size))
  clear hB HS HS'
  go_wp2_with (go_at_call 6; refine (lacks3_calls _).mono ?_)
  rintro e w5 ⟨rfl, rfl⟩
  have HS := hid (strs_nil w4)
  go_wp2_with (go_at_call 8; refine (reft_calls 4 3 (by decide) (by decide) (by decide) (by decide) _).mono ?_)
  rintro e w6 ⟨r', rfl, hS', hB⟩
  rw [show acc 4 (3 + 1 - 4) = [] by kernel_rfl] at hS'
  have HB := hid (HB.out.trans (hB.mono HB.out.size))
  have HS := hid (HS.out.later hB)
  have HS' := hid hS'
  clear hB hS'
  go_wp2_with (go_at_call 7; refine (same_calls _ _ ([]) _ HS.out HS'.out (by rw [show ([] : List ByteArray).length = 0 by kernel_rfl]; decide)).mono ?_)
  rintro e w7 ⟨rfl, hB⟩
  have HB := hid (HB.out.trans (hB.mono HB.out.size))
  clear hB HS HS'
  go_wp2
  go_ret
  exact ⟨rfl, HB.out⟩
theorem law_out (v m : Int) (w : World) (hm : w.cell? ⟨0, 0, none⟩ = some (.int .i64 m)) (h : ¬ (1 ≤ v ∧ v ≤ 3)) : Calls Tryd.prog 3 #[.int .i64 v] w fun e w' => e = .returned (.bool true) ∧ Below w.heap.size w w' := by
  have hM := hid hm
  have H := hid h
  clear hm h
  go_enter Tryd.func3, Tryd.ntmps3
  go_wp2_with (go_at_call 4; refine (alive_calls m _ hM.out).mono ?_)
  rintro e w1 ⟨rfl, hB⟩
  have HB := hid hB
  clear hB
  by_cases h1 : v < 1
  · go_wp2_with (first
      | (go_at_call 5; refine (none_calls5 v _ H.out).mono ?_; rintro e w' ⟨rfl, rfl⟩)
      | (go_at_call 6; refine (none_calls6 v _ H.out).mono ?_; rintro e w' ⟨rfl, rfl⟩))
    go_ret
    exact ⟨rfl, HB.out⟩
  · have h3 : 3 < v := by have := H.out; omega
    go_wp2_with (first
      | (go_at_call 5; refine (none_calls5 v _ H.out).mono ?_; rintro e w' ⟨rfl, rfl⟩)
      | (go_at_call 6; refine (none_calls6 v _ H.out).mono ?_; rintro e w' ⟨rfl, rfl⟩))
    go_ret
    exact ⟨rfl, HB.out⟩
theorem law_calls (v m : Int) (w : World) (hm : w.cell? ⟨0, 0, none⟩ = some (.int .i64 m)) : Calls Tryd.prog 3 #[.int .i64 v] w fun e w' => e = .returned (.bool true) ∧ Below w.heap.size w w' := by
  by_cases h : 1 ≤ v ∧ v ≤ 3
  · have h' : v = 1 ∨ v = 2 ∨ v = 3 := by omega
    rcases h' with rfl | rfl | rfl
    · exact law1 m w hm
    · exact law2 m w hm
    · exact law3 m w hm
  · exact law_out v m w hm h
end Go.Proofs.YtncgpalklmdgdaaDoor.OldW
