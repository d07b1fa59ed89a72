/- SerialLeft returns true for any start, any list, any count and any stop, and its argument reads afterwards as it read before; there is no condition. -/
import Derived.Test.YtgbjbmakjilddaaRows
import Derived.Test.YtgbjbmakjilddaaLeftWalk
import Derived.WalkKit
import Derived.ProofKit
import Derived.OpenShut
import Derived.ChangeOld
import Derived.SizedLaws
import Derived.Lib.SmallJoins
namespace Go.Proofs.Ytgbjbmakjilddaa.serialLeft
open Go.ChangeShapes Go.WideShapes Go.ChangeAt Go.RowKit Go.Joins Base
set_option linter.unusedVariables false
set_option maxRecDepth 100000
theorem own : ownKnob Try.prog.godebug = none := by kernel_rfl
theorem laidOut : laidOutB Try.prog = true := by kernel_rfl
theorem cells41 : Try.prog.cellsOf 41 = 4 := by kernel_rfl
theorem cells31 : Try.prog.cellsOf 31 = 1 := by kernel_rfl
theorem row_of {w : World} {H : Type} {enc : TypeId × Value → H} {held : Bool} {fuel : Nat} {a : Option Addr} {len cap : Nat} {y : DataW H × List MemPlace} {sp : Nat → Bool}
    (h : DataW.trod enc Try.prog w 0 sp held fuel 39 [.slice a len cap] = some y) (hs : ∀ x ∈ y.2, x.block < w.heap.size) : ∃ xs : List Int, xs.length = len ∧ len ≤ maxLen ∧ RowV 0 w.heap.size w a (xs.map (Value.int .u16)) := by
  rcases open_ints Try.underlying39 Try.underlying31 cells31 h with ⟨hcs, hx⟩ | ⟨a', len', cap', zs, hcs, _, hl, hm, hz, hx, hcell, hwz⟩
  · simp at hcs
    obtain ⟨rfl, rfl, rfl⟩ := hcs
    exact ⟨[], rfl, by simp, .inl rfl⟩
  · simp at hcs
    obtain ⟨rfl, rfl, rfl⟩ := hcs
    have hzl : len ≤ zs.length := by
      rw [hz]; split <;> omega
    refine ⟨zs.take len, by simp; omega, by omega, ?_⟩
    by_cases h0 : len = 0
    · left; simp [h0]
    · right
      obtain ⟨b, o, s⟩ := a'
      have h1 := hcell 0 (by omega)
      have e : s = none := by simpa [Addr.add] using World.cell?_spot h1
      subst e
      refine ⟨b, o, rfl, Nat.zero_le _, by rw [add_plain] at h1; exact lt_of_cell h1, fun j hj => ?_⟩
      have hj' : j < len := by simp at hj; omega
      have h2 := hcell j (by omega)
      rw [add_plain] at h2
      rw [h2, List.getElem?_map, List.getElem?_take_of_lt hj']
      simp [show j < zs.length by omega]
theorem lifted (os : Os) (started : os.Started) (H : Type) (enc : TypeId × Value → H) :
    ReturnsInHanded {} Try.checked os 6 .any (Rows.serialLeftSpec.pre6 enc Try.prog Try.f6 Rows.serialLeftRow.domain false) (Rows.serialLeftSpec.post enc Try.prog Try.f6 false true false false) := by
  refine returnsInHanded_of_change_sized (C := Try.checked) own started (by kernel_rfl) Try.func6
    (ChangeSpec.witness6 (enc := enc) (C := Try.checked) false ⟨#[], #[.agg #[.int .u16 0, .slice none 0 0, .int .i64 0, .int .i64 0]], []⟩ 8 (by kernel_rfl) (by kernel_rfl) (by kernel_rfl) (by kernel_rfl)) ?_
  intro W base args ds gs before hval0 hW hcnd hsz0 _
  have hsz : (DataW.weightsEach Try.prog (Try.f6.params.toList ++ Rows.serialLeftSpec.plain.varTypes Try.prog) (ds ++ gs)).all (· ≤ reachBytes) = true := hsz0
  have hval : ∀ (j : Nat) t v, Try.f6.params[j]? = some t → args[j]? = some v → Value.okWide Try.prog W .any base t v := hval0
  have hW' := hW
  obtain ⟨p, q, hA0, hV, rfl, hfz, hnd⟩ := hW
  have hA : DataW.TrodAll enc Try.prog W 0 (fun _ => true) true Try.f6.params.toList args.toList ds p := hA0
  rw [Try.params6] at hA hval hsz
  obtain ⟨v0, vs0, d0, ds0, p0, q0, hargs, rfl, rfl, h0, r0⟩ := trodAll_cons hA
  obtain ⟨rfl, rfl, rfl⟩ := trodAll_nil r0
  obtain rfl : args = #[v0] := by cases args; simp_all
  obtain ⟨rfl, rfl⟩ := trodVars_none hV
  have k0 := h0
  have lt0 : ∀ x ∈ p0, x.block < W.heap.size := by obtain ⟨m, hm⟩ := k0; exact DataW.trod_lt m _ _ _ hm
  obtain ⟨c0, c1, c2, c3, y0, y1, y2, y3, m, rfl, rfl, rfl, t0, t1, t2, t3⟩ := open_agg4 Try.underlying41 (by kernel_rfl) cells41 (hval 0 41 v0 rfl rfl) h0
  obtain ⟨x0, e0, _, _⟩ := DataW.trod_int Try.underlying31 t0
  obtain ⟨x2, e2, _, w2⟩ := DataW.trod_int Try.underlying3 t2
  obtain ⟨x3, e3, _, _⟩ := DataW.trod_int Try.underlying3 t3
  obtain ⟨a1, l1, p1, e1⟩ := slice_form Try.underlying39 t1
  simp only [List.cons.injEq, and_true] at e0 e1 e2 e3
  subst e0 e1 e2 e3
  obtain ⟨xs, hxl, hxm, hrow⟩ := row_of t1 (fun x hx => lt0 x (by simp [hx]))
  subst hxl
  have hl : xs.length ≤ 9223372036854775807 := by unfold maxLen at hxm; exact hxm
  refine (callsIn_wide.1 (Left.left1 x0 a1 xs p1 x2 x3 W hl hrow)).mono fun e W' ⟨he, bel⟩ => ?_
  subst he
  exact ⟨_, rfl, _, _, _, [], _, [], hW', trodAll_mk1 (shut_bool Try.underlying4 _), (trodAll_cons_mk (Below.trod laidOut (by kernel_rfl) (of_decide_eq_true (by kernel_rfl)) k0 bel lt0) trodAll_mk0), rfl, bel.frame _, fun h => by cases h⟩
theorem over : Rows.serialLeftRow.holds Try.pinned (OpenSpec.ofChange Rows.serialLeftSpec) :=
  OpenClaim.holds_of_wide 6 Try.f6 rfl rfl rfl rfl rfl rfl rfl ⟨rfl, rfl, rfl, rfl, rfl⟩ rfl rfl rfl rfl rfl (by kernel_rfl) Try.func6 (by kernel_rfl)
    (of_decide_eq_true (by kernel_rfl)) (by unfold Func.isWrapper; first | (rw [if_pos (by decide +kernel)]; kernel_rfl) | (rw [if_neg (by decide +kernel)]; exact ⟨rfl, rfl⟩))
    (fun os started H enc _ => lifted os started H enc)
/-- THE STATEMENT. -/
theorem proved : Rows.SerialLeftSaid := over
end Go.Proofs.Ytgbjbmakjilddaa.serialLeft
