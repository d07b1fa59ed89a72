import Derived.Test.YtidbkkebkgeioaaGreatRn
namespace Go.Proofs.YtidbkkebkgeioaaGreat.En
open Go.ChangeShapes Go.WideShapes Go.ChangeAt Go.RowKit Go.Shelf MK
open Base (hid cell_new1 cell_old1 froz_new1 froz_old1)
open TmA
open TmR (Row Row.below)
attribute [local go_sem] Oper.semAt_some
set_option linter.unusedVariables false
set_option linter.unusedSimpArgs false
set_option maxRecDepth 100000
set_option maxHeartbeats 4000000 in
theorem plays_calls (As : Option Addr) (cs : Nat) (l : List TmR.Act) (w : World) (hr : Row w As l) (hw : ∀ p ∈ l, I64 p.f1 ∧ I64 p.f2) :
    Calls Tryz.prog 3 #[.slice As l.length cs] w fun e w' => e = .returned (.bool true) ∧ Below w.heap.size w w' := by
  have HR := hid hr
  have HW := hid hw
  clear hr hw
  by_cases h60 : 60 < l.length
  · have hd : decide ((60 : Int) < (l.length : Int)) = true := by simp; omega
    go_enter Tryz.func3, Tryz.ntmps3
    go_wp2_with (go_at_call 5; refine (TmS.alive_calls _).mono ?_; rintro e w1 ⟨rfl, hb⟩)
    go_ret
    exact ⟨rfl, hb⟩
  · have hd : decide ((60 : Int) < (l.length : Int)) = false := by simp; omega
    have h60' : l.length ≤ 60 := by omega
    clear h60
    go_enter Tryz.func3, Tryz.ntmps3
    go_wp2_with (first
      | (go_at_call 5; refine (TmS.alive_calls _).mono ?_; rintro e w1 ⟨rfl, hb⟩; have HB := hid hb; clear hb)
      | (go_at_call 6; refine (new_calls _).mono ?_; rintro e w2 ⟨bt, b, rfl, hT, hbt, hb, hB⟩; have HT := hid hT; have HB2 := hid (HB.out.trans (hB.mono HB.out.size)); have hbw : w.heap.size ≤ b := Nat.le_trans HB.out.size hb; clear hT hB hb hbt HB)
      | (go_at_call 7; go_must (refine (play_calls w2 bt b 0 [] none 0 As cs l HT.out (World.ownsRow_nil _ _ _ _) (Nat.le_refl _) (by omega) (HR.out.below HB2.out) HW.out h60').mono ?_; rintro e w3 ⟨A, c, m, n, rfl, hT3, hO3, hm3, hn3, hG3⟩; have HT3 := hid hT3; have HO3 := hid hO3; have HB3 := hid (HB2.out.grown hG3 HB2.out.size (fun k e => by cases e; exact hbw)); clear hT3 hO3 hG3 HT HB2))
      | (go_at_call 8; go_must (refine (goes_calls w3 bt b n m A c HT3.out HO3.out (by omega)).mono ?_; rintro e w4 ⟨rfl, hB4⟩; have HB4 := hid (HB3.out.trans (hB4.mono HB3.out.size)); clear hB4)))
    go_ret
    exact ⟨rfl, HB4.out⟩
end Go.Proofs.YtidbkkebkgeioaaGreat.En
