/- FragCuts returns true for any message and any start, and its arguments read afterwards as they read before; there is no condition. -/
import Derived.Test.YtgbjbmakjilddaaRows
import Derived.Test.YtgbjbmakjilddaaFragRow
import Derived.Test.YtgbjbmakjilddaaFragCu
import Derived.WalkKit
import Derived.ProofKit
import Derived.OpenShut
import Derived.ChangeOld
import Derived.SizedLaws
import Derived.Lib.SmallJoins
namespace Go.Proofs.Ytgbjbmakjilddaa.fragCuts
open Go.ChangeShapes Go.WideShapes Go.ChangeAt Go.RowKit Go.Joins Go.Proofs.YtgbjbmakjilddaaW.PrintWords
set_option linter.unusedVariables false
set_option maxRecDepth 100000
open QFrag
theorem own : ownKnob Try.prog.godebug = none := by kernel_rfl
theorem laidOut : laidOutB Try.prog = true := by kernel_rfl
theorem cells77 : Try.prog.cellsOf 77 = 3 := by kernel_rfl
theorem cells79 : Try.prog.cellsOf 79 = 3 := by kernel_rfl
theorem lifted (os : Os) (started : os.Started) (H : Type) (enc : TypeId × Value → H) :
    ReturnsInHanded {} Try.checked os 8 .any (Rows.fragCutsSpec.pre6 enc Try.prog Try.f8 Rows.fragCutsRow.domain false) (Rows.fragCutsSpec.post enc Try.prog Try.f8 false true false false) := by
  refine returnsInHanded_of_change_sized (C := Try.checked) own started (by kernel_rfl) Try.func8
    (ChangeSpec.witness6 (enc := enc) (C := Try.checked) false ⟨#[], #[.agg #[.int .i64 0, .bool false, .slice none 0 0], .agg #[.int .u32 0, .int .u16 0, .int .i64 0]], []⟩ 8 (by kernel_rfl) (by kernel_rfl) (by kernel_rfl) (by kernel_rfl)) ?_
  intro W base args ds gs before hval0 hW hcnd hsz0 _
  have hval : ∀ (j : Nat) t v, Try.f8.params[j]? = some t → args[j]? = some v → Value.okWide Try.prog W .any base t v := hval0
  have hW' := hW
  obtain ⟨p, q, hA0, hV, rfl, hfz, hnd⟩ := hW
  have hA : DataW.TrodAll enc Try.prog W 0 (fun _ => true) true Try.f8.params.toList args.toList ds p := hA0
  rw [Try.params8] at hA hval
  obtain ⟨v0, vs0, d0, ds0, p0, q0, hargs, rfl, rfl, h0, r0⟩ := trodAll_cons hA
  obtain ⟨v1, vs1, d1, ds1, p1, q1, rfl, rfl, rfl, h1, r1⟩ := trodAll_cons r0
  obtain ⟨rfl, rfl, rfl⟩ := trodAll_nil r1
  obtain rfl : args = #[v0, v1] := by cases args; simp_all
  obtain ⟨rfl, rfl⟩ := trodVars_none hV
  have k0 := h0
  have k1 := h1
  have lt0 : ∀ x ∈ p0, x.block < W.heap.size := by obtain ⟨m, hm⟩ := k0; exact DataW.trod_lt m _ _ _ hm
  have lt1 : ∀ x ∈ p1, x.block < W.heap.size := by obtain ⟨m, hm⟩ := k1; exact DataW.trod_lt m _ _ _ hm
  obtain ⟨c0, c1, c2, y0, y1, y2, m, rfl, rfl, rfl, t0, t1, t2⟩ := open_agg3 Try.underlying77 (by kernel_rfl) cells77 (hval 0 77 v0 rfl rfl) h0
  obtain ⟨x0, q0, _, _⟩ := DataW.trod_int Try.underlying3 t0
  obtain ⟨b1, q1, _⟩ := DataW.trod_bool Try.underlying4 t1
  obtain ⟨a2, l2, p2, q2⟩ := slice_form Try.underlying75 t2
  obtain ⟨e0, e1, e2, z0, z1, z2, n, rfl, rfl, rfl, s0, s1, s2⟩ := open_agg3 Try.underlying79 (by kernel_rfl) cells79 (hval 1 79 v1 rfl rfl) h1
  obtain ⟨u0, o0, _, _⟩ := DataW.trod_int Try.underlying22 s0
  obtain ⟨u1, o1, _, _⟩ := DataW.trod_int Try.underlying31 s1
  obtain ⟨u2, o2, _, _⟩ := DataW.trod_int Try.underlying3 s2
  simp only [List.cons.injEq, and_true] at q0 q1 q2 o0 o1 o2
  subst q0 q1 q2 o0 o1 o2
  obtain ⟨xs, rfl, hc2, hr2, _⟩ := row8_of t2
  refine (cuts_calls x0 b1 a2 p2 xs u0 u1 u2 W hr2 hc2).mono fun e W' ⟨he, bel⟩ => ?_
  subst he
  exact ⟨_, rfl, _, _, _, [], _, [], hW', trodAll_mk1 (shut_bool Try.underlying4 _), (trodAll_cons_mk (Below.trod laidOut (by kernel_rfl) (of_decide_eq_true (by kernel_rfl)) k0 bel lt0) (trodAll_cons_mk (Below.trod laidOut (by kernel_rfl) (of_decide_eq_true (by kernel_rfl)) k1 bel lt1) trodAll_mk0)), rfl, bel.frame _, fun h => by cases h⟩
theorem over : Rows.fragCutsRow.holds Try.pinned (OpenSpec.ofChange Rows.fragCutsSpec) :=
  OpenClaim.holds_of_wide 8 Try.f8 rfl rfl rfl rfl rfl rfl rfl ⟨rfl, rfl, rfl, rfl, rfl⟩ rfl rfl rfl rfl rfl (by kernel_rfl) Try.func8 (by kernel_rfl)
    (of_decide_eq_true (by kernel_rfl)) (by unfold Func.isWrapper; first | (rw [if_pos (by decide +kernel)]; kernel_rfl) | (rw [if_neg (by decide +kernel)]; exact ⟨rfl, rfl⟩))
    (fun os started H enc _ => lifted os started H enc)
/-- THE STATEMENT. -/
theorem proved : Rows.FragCutsSaid := over
end Go.Proofs.Ytgbjbmakjilddaa.fragCuts
