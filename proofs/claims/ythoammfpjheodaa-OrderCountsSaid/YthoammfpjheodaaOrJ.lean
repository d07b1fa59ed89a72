import Derived.Test.YthoammfpjheodaaOrI
namespace Go.Proofs.Ythoammfpjheodaa.Or
open Go.ChangeShapes Go.WideShapes Go.ChangeAt Go.RowKit Go.Shelf MK Go.Sort
open Base (hid cell_new1 cell_old1 froz_new1 froz_old1)
open Rz (below_alloc lt_of_cell add_block Txt box_at box_new box_old setCells_grown grown_setAt own_low own_base txt_row nil_row clone_calls)
attribute [local go_sem] Oper.semAt_some
set_option linter.unusedVariables false
set_option linter.unusedSimpArgs false
set_option maxRecDepth 100000
/-! the comparing closure of Waiting -/
def orI (x y : Int) : Int := if x = 0 then y else x
theorem or_calls' (w : World) (b : Nat) (x y : Int) (hx : w.cell? ⟨b, 0, none⟩ = some (.int .i64 x)) (hy : w.cell? ⟨b, 1, none⟩ = some (.int .i64 y)) :
    Calls Try.prog 62 #[.slice (some ⟨b, 0, none⟩) 2 2] w fun e w' => e = .returned (.int .i64 (orI x y)) ∧ w = w' := or_calls w b x y hx hy
def cS (nx : List Int) (a b : Int × Int) : Int := orI (Lib.compareInt a.1 b.1) (Lib.compareInt (farW nx a.1 a.2) (farW nx b.1 b.2))
set_option maxHeartbeats 4000000 in
theorem cls_calls (w : World) (bc bd bp : Nat) (nx : List Int) (s q s' q' : Int) (hs : 0 ≤ s ∧ s ≤ 7) (hs' : 0 ≤ s' ∧ s' ≤ 7) (hc : w.cell? ⟨bc, 0, none⟩ = some (.func (.func 57) #[] #[.pointer (some ⟨bd, 0, none⟩)])) (hd : w.cell? ⟨bd, 0, none⟩ = some (.pointer (some ⟨bp, 0, none⟩)))
    (hn : ∀ t : Int, 0 ≤ t ∧ t ≤ 7 → w.cell? ⟨bp, t.toNat, none⟩ = some (.int .u16 (nxt nx t))) :
    Calls Try.prog 61 #[.agg #[.int .i64 s, .int .u16 q], .agg #[.int .i64 s', .int .u16 q'], .pointer (some ⟨bc, 0, none⟩)] w fun e w' => e = .returned (.int .i64 (cS nx (s, q) (s', q'))) ∧ Grw w w' := by
  obtain ⟨W, hW⟩ : ∃ W, W = (w.alloc (.cells #[.int .i64 s, .int .u16 q] 117)).alloc (.cells #[.int .i64 s', .int .u16 q'] 117) := ⟨_, rfl⟩
  have HG : Hid (Grw w W) := hid (by rw [hW]; exact ((Grw.refl _).alloc _).alloc _)
  have hk : W.heap[w.heap.size]? = some (.cells #[.int .i64 s, .int .u16 q] 117) := by rw [hW]; exact box_old (box_new w _ rfl)
  have hk' : W.heap[w.heap.size + 1]? = some (.cells #[.int .i64 s', .int .u16 q'] 117) := by rw [hW]; exact box_new (w.alloc _) _ (by simp)
  have hcl := lt_of_cell hc
  have hdl := lt_of_cell hd
  have hnl := lt_of_cell (hn s hs)
  have HS : Hid (∀ X, Grw W X → X.cell? ⟨w.heap.size, 0, none⟩ = some (.int .i64 s) ∧ X.cell? ⟨w.heap.size, 1, none⟩ = some (.int .u16 q) ∧ X.cell? ⟨w.heap.size + 1, 0, none⟩ = some (.int .i64 s') ∧ X.cell? ⟨w.heap.size + 1, 1, none⟩ = some (.int .u16 q') ∧ X.cell? ⟨bc, 0, none⟩ = some (.func (.func 57) #[] #[.pointer (some ⟨bd, 0, none⟩)]) ∧ X.cell? ⟨bd, 0, none⟩ = some (.pointer (some ⟨bp, 0, none⟩)) ∧ X.cell? ⟨bp, s.toNat, none⟩ = some (.int .u16 (nxt nx s)) ∧ X.cell? ⟨bp, s'.toNat, none⟩ = some (.int .u16 (nxt nx s'))) := hid fun X hX => by
    have hX2 := HG.out.trans hX
    have l1 := (Array.getElem?_eq_some_iff.1 hk).1
    have l2 := (Array.getElem?_eq_some_iff.1 hk').1
    have e1 := (hX.below.block _ l1).trans hk
    have e2 := (hX.below.block _ l2).trans hk'
    exact ⟨(box_at e1 0).1, (box_at e1 1).1, (box_at e2 0).1, (box_at e2 1).1, (hX2.below.cell (p := ⟨bc, 0, none⟩) hcl).trans hc, (hX2.below.cell (p := ⟨bd, 0, none⟩) hdl).trans hd, (hX2.below.cell (p := ⟨bp, s.toNat, none⟩) hnl).trans (hn s hs), (hX2.below.cell (p := ⟨bp, s'.toNat, none⟩) hnl).trans (hn s' hs')⟩
  have HFAR : Hid (∀ X t p, Grw W X → ((t = s ∧ p = q) ∨ (t = s' ∧ p = q')) → Calls Try.prog 57 #[.agg #[.int .i64 t, .int .u16 p], .pointer (some ⟨bd, 0, none⟩)] X fun e w' => e = .returned (.int .i64 (farW nx t p)) ∧ Grw W w') := hid fun X t p hX h => by
    have hb := HS.out X hX
    rcases h with ⟨rfl, rfl⟩ | ⟨rfl, rfl⟩
    · exact (far_calls X bd bp t p _ hs hb.2.2.2.2.2.1 hb.2.2.2.2.2.2.1).mono fun e w' h => ⟨h.1, hX.trans h.2⟩
    · exact (far_calls X bd bp t p _ hs' hb.2.2.2.2.2.1 hb.2.2.2.2.2.2.2).mono fun e w' h => ⟨h.1, hX.trans h.2⟩
  have HW := hid hW
  obtain ⟨rr, hrr⟩ : ∃ rr, cS nx (s, q) (s', q') = rr := ⟨_, rfl⟩
  rw [hrr]
  have HRES : Hid (orI (Lib.compareInt s s') (Lib.compareInt (farW nx s q) (farW nx s' q')) = rr) := hid hrr
  clear hs hs' hrr
  clear hW hk hk' hc hd hn hcl hdl hnl
  go_enter Try.func61, Try.ntmps61
  go_upto_region 1 with fail
  rw [← HW.out]
  go_region_held3 (fun X => X.cell? ⟨w.heap.size, 0, none⟩ = some (.int .i64 s) ∧ X.cell? ⟨w.heap.size, 1, none⟩ = some (.int .u16 q) ∧ X.cell? ⟨w.heap.size + 1, 0, none⟩ = some (.int .i64 s') ∧ X.cell? ⟨w.heap.size + 1, 1, none⟩ = some (.int .u16 q') ∧ X.cell? ⟨bc, 0, none⟩ = some (.func (.func 57) #[] #[.pointer (some ⟨bd, 0, none⟩)]) ∧ X.cell? ⟨bd, 0, none⟩ = some (.pointer (some ⟨bp, 0, none⟩)) ∧ X.cell? ⟨bp, s.toNat, none⟩ = some (.int .u16 (nxt nx s)) ∧ X.cell? ⟨bp, s'.toNat, none⟩ = some (.int .u16 (nxt nx s'))) ((refine HS.out _ ?_; repeat (first | assumption | exact Grw.refl _ | refine Grw.drew ?_ | refine Grw.alloc ?_ _))) (first
    | (go_at_call 57; refine (HFAR.out _ _ _ (by repeat (first | assumption | exact Grw.refl _ | refine Grw.drew ?_ | refine Grw.alloc ?_ _)) (by first | exact .inl ⟨rfl, rfl⟩ | exact .inr ⟨rfl, rfl⟩)).mono ?_; rintro e w1 ⟨rfl, hg1⟩)
    | (go_at_call 63; refine (cmp_calls _ _ _).mono ?_; rintro e w' ⟨rfl, rfl⟩)
    | (go_at_call 62; refine (or_calls' _ _ _ _ (cell_new1 _ _ _ _ rfl 0) (cell_new1 _ _ _ _ rfl 1)).mono ?_; rintro e w' ⟨rfl, rfl⟩))
  all_goals
    have HX : Hid (Grw W (w1.alloc (.cells #[.int .i64 (Lib.compareInt s s'), .int .i64 (Lib.compareInt (farW nx s q) (farW nx s' q'))] 3))) := hid (Grw.alloc (by assumption) _)
    go_wp2
    go_ret
    rw [HRES.out]
    exact ⟨rfl, HG.out.trans (by repeat (first | exact HX.out | refine Grw.drew ?_))⟩
end Go.Proofs.Ythoammfpjheodaa.Or
