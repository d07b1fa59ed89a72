/- FragRound returns true for any messages and any start, and its arguments read afterwards as they read before; there is no condition. -/
import Derived.Test.YtnlhlffciigcnaaRows
import Derived.Test.YtnlhlffciigcnaaFragRw
import Derived.WalkKit
import Derived.ProofKit
import Derived.OpenShut
import Derived.ChangeOld
import Derived.SizedLaws
import Derived.Lib.SmallJoins
namespace Go.Proofs.Ytnlhlffciigcnaa.fragRound
open Go.ChangeShapes Go.WideShapes Go.ChangeAt Go.RowKit Go.Joins Go.Proofs.YtnlhlffciigcnaaW.PrintWords
set_option linter.unusedVariables false
set_option maxRecDepth 100000
open QFrag
theorem own : ownKnob Try.prog.godebug = none := by kernel_rfl
theorem laidOut : laidOutB Try.prog = true := by kernel_rfl
theorem cells77 : Try.prog.cellsOf 77 = 3 := by kernel_rfl
theorem cells79 : Try.prog.cellsOf 79 = 3 := by kernel_rfl
noncomputable def fs77 : Array Field := match Try.prog.underlying 77 with | some (.struct fs) => fs | _ => #[]
theorem under77 : Try.prog.underlying 77 = some (.struct fs77) := by kernel_rfl
/-- A message's cells. -/
theorem msg_of {w : World} {H : Type} {enc : TypeId × Value → H} {held : Bool} {fuel : Nat} {cs : List Value} {y : DataW H × List MemPlace} {sp : Nat → Bool}
    (h : DataW.trod enc Try.prog w 0 sp held fuel 77 cs = some y) : ∃ p : S77, k77.K w p cs := by
  obtain ⟨ys, n, _, hyy, hlen, hyl, hf⟩ := DataW.trod_struct under77 h
  rw [cells77] at hlen
  match cs, hlen with
  | [v0, v1, v2], _ =>
    have hy : ∀ i, i < 3 → ∃ y, ys[i]? = some y := fun i hi => ⟨_, List.getElem?_eq_getElem (by rw [hyl]; exact hi)⟩
    obtain ⟨y0, e0⟩ := hy 0 (by decide)
    obtain ⟨y1, e1⟩ := hy 1 (by decide)
    obtain ⟨y2, e2⟩ := hy 2 (by decide)
    have t0 : DataW.trod enc Try.prog w 0 sp held n 3 [v0] = some y0 := (hf 0 _ rfl).trans e0
    have t1 : DataW.trod enc Try.prog w 0 sp held n 4 [v1] = some y1 := (hf 1 _ rfl).trans e1
    have t2 : DataW.trod enc Try.prog w 0 sp held n 75 [v2] = some y2 := (hf 2 _ rfl).trans e2
    obtain ⟨x0, q0, _, w0⟩ := DataW.trod_int Try.underlying3 t0
    obtain ⟨b1, q1, _⟩ := DataW.trod_bool Try.underlying4 t1
    obtain ⟨a2, l2, c2, q2⟩ := slice_form Try.underlying75 t2
    simp only [List.cons.injEq, and_true] at q0 q1 q2
    subst q0 q1 q2
    obtain ⟨xs, hx, hc, hr, hm⟩ := row8_of t2
    subst hx
    exact ⟨⟨x0, b1, xs⟩, k77_mk w ⟨x0, b1, xs⟩ hc hr⟩
/-- Messages. -/
theorem row77_of {w : World} {H : Type} {enc : TypeId × Value → H} {held : Bool} {fuel : Nat} {a : Option Addr} {len cap : Nat} {y : DataW H × List MemPlace} {sp : Nat → Bool}
    (h : DataW.trod enc Try.prog w 0 sp held fuel 90 [.slice a len cap] = some y) : ∃ xs : List S77, xs.length = len ∧ len ≤ cap ∧ Kd.C k77 w a xs.length xs := by
  rcases Deep.open_slice Try.underlying90 h with ⟨hcs, hx⟩ | ⟨a', len', cap', m, n, D, Pl, hcs, _, hl, hm, hmm, hx, hi⟩
  · simp at hcs
    obtain ⟨rfl, rfl, rfl⟩ := hcs
    exact ⟨[], rfl, Nat.le_refl _, ⟨rfl, by decide, fun h => absurd h (by decide)⟩⟩
  · simp at hcs
    obtain ⟨rfl, rfl, rfl⟩ := hcs
    have hlm : len ≤ m := by rw [hmm]; split <;> omega
    rw [cells77] at hi
    obtain ⟨xs, hxl, hxs⟩ := exists_list (P := fun i p => ∃ cs, k77.K w p cs ∧ (∀ j u, cs[j]? = some u → w.cell? (a'.add (i * 3 + j)) = some u)) len (by
      intro i hil
      obtain ⟨cs, hc, ht⟩ := hi i (by omega)
      obtain ⟨p, hK⟩ := msg_of ht
      obtain ⟨_, hcl, hat⟩ := World.cells?_some hc
      refine ⟨p, cs, hK, fun j u hj => ?_⟩
      have hj3 : j < 3 := by rw [← hcl]; exact (List.getElem?_eq_some_iff.1 hj).1
      rw [← Deep.add_add, hat j hj3, hj])
    unfold maxLen at hm
    refine ⟨xs, hxl, hl, ⟨rfl, by omega, fun h0 => ⟨a', rfl, fun j p hj => ?_⟩⟩⟩
    obtain ⟨hjl, rfl⟩ := List.getElem?_eq_some_iff.1 hj
    obtain ⟨cs, hK, hc⟩ := hxs j hjl
    exact ⟨cs, k77.K_len hK, hK, fun i u hu => hc i u hu⟩
theorem lifted (os : Os) (started : os.Started) (H : Type) (enc : TypeId × Value → H) :
    ReturnsInHanded {} Try.checked os 11 .any (Rows.fragRoundSpec.pre6 enc Try.prog Try.f11 Rows.fragRoundRow.domain false) (Rows.fragRoundSpec.post enc Try.prog Try.f11 false true false false) := by
  refine returnsInHanded_of_change_sized (C := Try.checked) own started (by kernel_rfl) Try.func11
    (ChangeSpec.witness6 (enc := enc) (C := Try.checked) false ⟨#[], #[.slice none 0 0, .agg #[.int .u32 0, .int .u16 0, .int .i64 0]], []⟩ 8 (by kernel_rfl) (by kernel_rfl) (by kernel_rfl) (by kernel_rfl)) ?_
  intro W base args ds gs before hval0 hW hcnd hsz0 _
  have hval : ∀ (j : Nat) t v, Try.f11.params[j]? = some t → args[j]? = some v → Value.okWide Try.prog W .any base t v := hval0
  have hW' := hW
  obtain ⟨p, q, hA0, hV, rfl, hfz, hnd⟩ := hW
  have hA : DataW.TrodAll enc Try.prog W 0 (fun _ => true) true Try.f11.params.toList args.toList ds p := hA0
  rw [Try.params11] at hA hval
  obtain ⟨v0, vs0, d0, ds0, p0, q0, hargs, rfl, rfl, h0, r0⟩ := trodAll_cons hA
  obtain ⟨v1, vs1, d1, ds1, p1, q1, rfl, rfl, rfl, h1, r1⟩ := trodAll_cons r0
  obtain ⟨rfl, rfl, rfl⟩ := trodAll_nil r1
  obtain rfl : args = #[v0, v1] := by cases args; simp_all
  obtain ⟨rfl, rfl⟩ := trodVars_none hV
  have k0 := h0
  have k1 := h1
  have lt0 : ∀ x ∈ p0, x.block < W.heap.size := by obtain ⟨m, hm⟩ := k0; exact DataW.trod_lt m _ _ _ hm
  have lt1 : ∀ x ∈ p1, x.block < W.heap.size := by obtain ⟨m, hm⟩ := k1; exact DataW.trod_lt m _ _ _ hm
  obtain ⟨a0, l0, c0, rfl⟩ := okWide_slice Try.underlying90 (hval 0 90 v0 rfl rfl)
  obtain ⟨fu, hf0⟩ := h0
  have hf : DataW.trod enc Try.prog W 0 (fun _ => true) true fu 90 [.slice a0 l0 c0] = some (d0, p0) := hf0
  obtain ⟨xs, rfl, hc0, hr0⟩ := row77_of hf
  obtain ⟨e0, e1, e2, z0, z1, z2, n, rfl, rfl, rfl, s0, s1, s2⟩ := open_agg3 Try.underlying79 (by kernel_rfl) cells79 (hval 1 79 v1 rfl rfl) h1
  obtain ⟨u0, o0, _, _⟩ := DataW.trod_int Try.underlying22 s0
  obtain ⟨u1, o1, _, _⟩ := DataW.trod_int Try.underlying31 s1
  obtain ⟨u2, o2, _, _⟩ := DataW.trod_int Try.underlying3 s2
  simp only [List.cons.injEq, and_true] at o0 o1 o2
  subst o0 o1 o2
  refine (round_law a0 c0 xs u0 u1 u2 W hr0 hc0).mono fun e W' ⟨he, bel⟩ => ?_
  subst he
  exact ⟨_, rfl, _, _, _, [], _, [], hW', trodAll_mk1 (shut_bool Try.underlying4 _), (trodAll_cons_mk (Below.trod laidOut (by kernel_rfl) (of_decide_eq_true (by kernel_rfl)) k0 bel lt0) (trodAll_cons_mk (Below.trod laidOut (by kernel_rfl) (of_decide_eq_true (by kernel_rfl)) k1 bel lt1) trodAll_mk0)), rfl, bel.frame _, fun h => by cases h⟩
theorem over : Rows.fragRoundRow.holds Try.pinned (OpenSpec.ofChange Rows.fragRoundSpec) :=
  OpenClaim.holds_of_wide 11 Try.f11 rfl rfl rfl rfl rfl rfl rfl ⟨rfl, rfl, rfl, rfl, rfl⟩ rfl rfl rfl rfl rfl (by kernel_rfl) Try.func11 (by kernel_rfl)
    (of_decide_eq_true (by kernel_rfl)) (by unfold Func.isWrapper; first | (rw [if_pos (by decide +kernel)]; kernel_rfl) | (rw [if_neg (by decide +kernel)]; exact ⟨rfl, rfl⟩))
    (fun os started H enc _ => lifted os started H enc)
/-- THE STATEMENT. -/
theorem proved : Rows.FragRoundSaid := over
end Go.Proofs.Ytnlhlffciigcnaa.fragRound
