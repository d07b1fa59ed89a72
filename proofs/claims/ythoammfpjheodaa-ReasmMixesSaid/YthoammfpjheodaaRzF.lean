import Derived.Test.YthoammfpjheodaaRzD
namespace Go.Proofs.Ythoammfpjheodaa.Rz
open Go.ChangeShapes Go.WideShapes Go.ChangeAt Go.RowKit Go.Shelf MK
open Base (hid cell_new1 cell_old1 froz_new1 froz_old1)
attribute [local go_sem] Oper.semAt_some
set_option linter.unusedVariables false
set_option linter.unusedSimpArgs false
set_option maxRecDepth 100000
theorem _root_.Go.RowKit.Below.drewN' {B : Nat} {w w' : World} (h : Below B w w') (n : Nat) : Below B w (w'.drewN n) := ⟨h.os, h.tape, h.output, h.size, h.block⟩
/-- Why a piece may not come: 0: it may. -/
def mayE (m : List Pm) (p : Pm) : Int := if rightP p = false then 2 else if (look m p.t).isSome then 12 else if 2000 < held m + p.x.length then 3 else 0
def errV (n : Int) : Value := if n = 0 then .nilIface else .iface 81 (.int .i64 n)
set_option maxHeartbeats 1000000 in
theorem may_calls (w : World) (bp mb n : Nat) (m : List Pm) (p : Pm) (h : Bn w bp mb n m) (hu : U32 p.t) (hp1 : p.x.length ≤ 1000000) (hh : held m ≤ 1000000000) :
    Calls Try.prog 47 #[.pointer (some ⟨bp, 0, none⟩), p.val] w fun e w' => e = .returned (errV (mayE m p)) ∧ Below w.heap.size w w' := by
  have H := hid h
  have hlt := h.lt
  clear h
  have HU := hid hu
  clear hu
  have hv : p.val = .agg #[.int .u32 p.t, .int .u16 p.s, .int .u16 p.q, .bool p.b, .bool p.e, .bool p.u, .slice p.A p.x.length p.c] := rfl
  have HV := hid hv
  rw [hv]
  clear hv
  have HB0 : Hid (Below w.heap.size w (w.alloc (.cells #[.int .u32 p.t, .int .u16 p.s, .int .u16 p.q, .bool p.b, .bool p.e, .bool p.u, .slice p.A p.x.length p.c] 40))) := hid (below_alloc (Below.refl _ _) _)
  cases hr : rightP p with
  | false =>
    have HRR := hid hr
    have hm : mayE m p = 2 := by unfold mayE; rw [if_pos hr]
    have HM := hid hm
    clear hr hm
    go_enter Try.func47, Try.ntmps47
    go_wp2_with (go_at_call 90; go_must (rw [← HV.out]; refine (right_calls p _).mono ?_; rintro e w1 ⟨he, hb1⟩; rw [HRR.out] at he; subst he; have HB1 := hid hb1; clear hb1))
    go_ret
    rw [HM.out]
    exact ⟨rfl, HB0.out.trans (HB1.out.mono (by simp))⟩
  | true =>
    have HRR := hid hr
    cases hl : (look m p.t).isSome with
    | true =>
      have HL := hid hl
      have hm : mayE m p = 12 := by unfold mayE; rw [if_neg (by rw [hr]; decide), if_pos hl]
      have HM := hid hm
      clear hr hm hl
      go_enter Try.func47, Try.ntmps47
      go_wp2_with (first
        | (go_at_call 90; go_must (rw [← HV.out]; refine (right_calls p _).mono ?_; rintro e w1 ⟨he, hb1⟩; rw [HRR.out] at he; subst he; have HB1 := hid hb1; obtain ⟨c0, c1, c2, c3, c4, c5, c6, cf⟩ := (Box.new w p).below hb1; clear hb1))
        | (go_at_call 37; go_must (refine (has_calls _ bp mb n m p.t ((H.out.below HB0.out).below HB1.out) HU.out).mono ?_; rintro e w2 ⟨he, hb2⟩; rw [HL.out] at he; subst he; have HB2 := hid hb2; clear hb2)))
      go_ret
      rw [HM.out]
      exact ⟨rfl, HB0.out.trans ((HB1.out.trans (HB2.out.mono HB1.out.size)).mono (by simp))⟩
    | false =>
      have HL := hid hl
      have hws : wrap64 ((held m : Int) + (p.x.length : Int)) = (held m : Int) + (p.x.length : Int) := by unfold wrap64; omega
      by_cases hs : 2000 < held m + p.x.length
      · have d1 : decide ((2000 : Int) < (held m : Int) + (p.x.length : Int)) = true := by simp only [decide_eq_true_eq]; omega
        have hm : mayE m p = 3 := by unfold mayE; rw [if_neg (by rw [hr]; decide), if_neg (by rw [hl]; decide), if_pos hs]
        have HM := hid hm
        clear hr hm hl hs
        go_enter Try.func47, Try.ntmps47
        go_wp2_with (first
          | (go_at_call 90; go_must (rw [← HV.out]; refine (right_calls p _).mono ?_; rintro e w1 ⟨he, hb1⟩; rw [HRR.out] at he; subst he; have HB1 := hid hb1; obtain ⟨c0, c1, c2, c3, c4, c5, c6, cf⟩ := (Box.new w p).below hb1; have HX1 : Hid (Box w1 w.heap.size p) := hid ((Box.new w p).below hb1); clear hb1))
          | (go_at_call 37; go_must (refine (has_calls _ bp mb n m p.t ((H.out.below HB0.out).below HB1.out) HU.out).mono ?_; rintro e w2 ⟨he, hb2⟩; rw [HL.out] at he; subst he; have HB2 := hid hb2; obtain ⟨d0, d1', d2, d3, d4, d5, d6, df⟩ := HX1.out.below hb2; have hh2 := (((H.out.below HB0.out).below HB1.out).below hb2).hel; clear hb2)))
        go_wp2
        go_quiet (fail)
        go_wp2
        go_ret
        rw [HM.out]
        exact ⟨rfl, HB0.out.trans ((HB1.out.trans (HB2.out.mono HB1.out.size)).mono (by simp)) |>.drewN' _⟩
      · have d1 : decide ((2000 : Int) < (held m : Int) + (p.x.length : Int)) = false := by simp only [decide_eq_false_iff_not]; omega
        have hm : mayE m p = 0 := by unfold mayE; rw [if_neg (by rw [hr]; decide), if_neg (by rw [hl]; decide), if_neg hs]
        have HM := hid hm
        clear hr hm hl hs
        go_enter Try.func47, Try.ntmps47
        go_wp2_with (first
          | (go_at_call 90; go_must (rw [← HV.out]; refine (right_calls p _).mono ?_; rintro e w1 ⟨he, hb1⟩; rw [HRR.out] at he; subst he; have HB1 := hid hb1; obtain ⟨c0, c1, c2, c3, c4, c5, c6, cf⟩ := (Box.new w p).below hb1; have HX1 : Hid (Box w1 w.heap.size p) := hid ((Box.new w p).below hb1); clear hb1))
          | (go_at_call 37; go_must (refine (has_calls _ bp mb n m p.t ((H.out.below HB0.out).below HB1.out) HU.out).mono ?_; rintro e w2 ⟨he, hb2⟩; rw [HL.out] at he; subst he; have HB2 := hid hb2; obtain ⟨d0, d1', d2, d3, d4, d5, d6, df⟩ := HX1.out.below hb2; have hh2 := (((H.out.below HB0.out).below HB1.out).below hb2).hel; clear hb2)))
        go_wp2
        go_quiet (fail)
        go_wp2
        go_ret
        rw [HM.out]
        exact ⟨rfl, HB0.out.trans ((HB1.out.trans (HB2.out.mono HB1.out.size)).mono (by simp)) |>.drewN' _⟩
end Go.Proofs.Ythoammfpjheodaa.Rz
