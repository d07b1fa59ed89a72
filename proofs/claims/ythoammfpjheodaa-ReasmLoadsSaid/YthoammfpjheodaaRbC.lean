import Derived.Test.YthoammfpjheodaaRaZ
import Derived.Shelf.SlMaps.Clone
namespace Go.Proofs.Ythoammfpjheodaa
open Go.Shelf
def Try.cloneU_ren : Go.Shelf.Ren := ⟨fun | 5 => 88 | 7 => 100 | n => n, fun | 23 => 102 | 25 => 23 | 3 => 40 | 4 => 4 | 20 => 20 | n => n, fun | n => n⟩
theorem Try.cloneU : Go.Proofs.SlLaysW.n5 Go.Proofs.Try.prog Try.cloneU_ren := {
  mixed := by kernel_rfl
  f5 := ⟨Go.Proofs.Try.f88.name, by decide, Go.Proofs.Try.func88.trans (congrArg some (by kernel_rfl))⟩
  f7 := Go.Proofs.Try.func100.trans (congrArg some (by kernel_rfl))
  t4 := Go.Proofs.Try.underlying4
  a4 := Go.Proofs.Try.isAgg4
  z4 := Go.Proofs.Try.sizeOf4
  v4 := Go.Proofs.Try.zeroValue4
  t20 := Go.Proofs.Try.underlying20
  a20 := Go.Proofs.Try.isAgg20
  z20 := Go.Proofs.Try.sizeOf20
  v20 := Go.Proofs.Try.zeroValue20
  t23 := Go.Proofs.Try.underlying102
  a23 := Go.Proofs.Try.isAgg102
  z23 := Go.Proofs.Try.sizeOf102
  v23 := Go.Proofs.Try.zeroValue102 }
end Go.Proofs.Ythoammfpjheodaa
namespace Go.Proofs.Ythoammfpjheodaa.Rz
open Go.ChangeShapes Go.WideShapes Go.ChangeAt Go.RowKit Go.Shelf MK Go.Joins
open Base (hid cell_new1 cell_old1 froz_new1 froz_old1)
attribute [local go_sem] Oper.semAt_some
set_option linter.unusedVariables false
set_option linter.unusedSimpArgs false
set_option maxRecDepth 100000
/-! Copy -/
set_option maxHeartbeats 2000000 in
theorem copyB_calls (w : World) (bp mb n : Nat) (m : List Pm) (h : Bn w bp mb n m) (hx : ∀ p ∈ m, 0 < p.x.length) :
    Calls Try.prog 41 #[.pointer (some ⟨bp, 0, none⟩)] w fun e w' => ∃ bp' mb', e = .returned (.pointer (some ⟨bp', 0, none⟩)) ∧ Bn w' bp' mb' n m ∧ w.heap.size ≤ bp' ∧ w.heap.size ≤ mb' ∧ bp' ≠ mb' ∧ Below w.heap.size w w' := by
  have hlt := h.lt
  have hS : ∀ X, Below w.heap.size w X → Below w.heap.size w X ∧ X.cell? ⟨bp, 0, none⟩ = some (.map (some mb)) ∧ X.cell? ⟨bp, 1, none⟩ = some (.int .i64 (held m : Nat)) := fun X hX => ⟨hX, (h.below hX).ptr, (h.below hX).hel⟩
  obtain ⟨D, ho, h2, h3, h4⟩ := h.map
  have hC : ∀ X, Below w.heap.size w X → Calls Try.prog 88 #[.map (some mb)] X fun e w' => e = .returned (.map (some X.heap.size)) ∧ w'.ownsMap Try.prog 23 heldE X.heap.size n D ∧ Below X.heap.size X w' ∧ Below w.heap.size w w' := fun X hX => by
    have ho2 : X.ownsMap Try.prog 23 heldE mb n D := by
      obtain ⟨es, clock, k1, k3⟩ := ho
      exact ⟨es, clock, (hX.block mb hlt.2).trans k1, k3⟩
    have hc := AnyW.maps_Clone_owns Try.cloneU 23 heldE mb n D X ho2
    change Calls Try.prog 88 _ _ _ at hc
    exact hc.mono fun e w' ⟨a, b, _, d⟩ => ⟨a, b, d, below_step hX d⟩
  have HS := hid hS
  have HC := hid hC
  have HR := hid (And.intro h2 (And.intro h3 h4))
  have H := hid h
  obtain ⟨p0, p1⟩ : w.cell? ⟨bp, 0, none⟩ = some (.map (some mb)) ∧ w.cell? ⟨bp, 1, none⟩ = some (.int .i64 (held m : Nat)) := ⟨h.ptr, h.hel⟩
  clear hS hC ho h2 h3 h4 h
  go_enter Try.func41, Try.ntmps41
  go_upto_region 3 with fail
  go_region_held3 (fun X => Below w.heap.size w X ∧ X.cell? ⟨bp, 0, none⟩ = some (.map (some mb)) ∧ X.cell? ⟨bp, 1, none⟩ = some (.int .i64 (held m : Nat))) ((refine HS.out _ ?_; repeat (first | assumption | exact Below.refl _ _ | refine Below.drew ?_ | refine below_alloc ?_ _))) (first
    | (go_at_call 88; refine (HC.out _ (by repeat (first | assumption | exact Below.refl _ _ | refine Below.drew ?_ | refine below_alloc ?_ _))).mono ?_; rintro e w5 ⟨rfl, ho5, hbx5, hb5⟩))
  all_goals
    have HO5 := hid ho5
    have HB5 := hid hb5
    have HBX5 := hid hbx5
    clear ho5 hb5 hbx5
    go_wp2
    go_ret
    obtain ⟨h2, h3, h4⟩ := HR.out
    have hb := below_alloc HB5.out (.cells #[.map (some w.heap.size), .int .i64 (held m : Nat)] 104)
    have hz5 := HB5.out.size
    have hl5 : w.heap.size < w5.heap.size := HO5.out.lt
    have hbn := box_new w5 (.cells #[.map (some w.heap.size), .int .i64 (held m : Nat)] 104) rfl
    refine ⟨w5.heap.size, w.heap.size, rfl, ⟨(box_at hbn 0).1, (box_at hbn 1).1, (box_at hbn 1).2, ⟨D, HO5.out.alloc _, h2, h3, h4⟩, H.out.nod, fun p hp => (H.out.ok p hp).below hb, fun p hp ad e => ?_⟩, hz5, Nat.le_refl _, by omega, hb⟩
    have := ((H.out.ok p hp).txt).lt (hx p hp) ad e
    omega
end Go.Proofs.Ythoammfpjheodaa.Rz
