import Derived.Test.YthoammfpjheodaaOrH
import Derived.Test.YthoammfpjheodaaOrSh
namespace Go.Proofs.Ythoammfpjheodaa.Or
open Go.ChangeShapes Go.WideShapes Go.ChangeAt Go.RowKit Go.Shelf MK Go.Sort
open Base (hid cell_new1 cell_old1 froz_new1 froz_old1)
open Rz (below_alloc lt_of_cell add_block Txt box_at box_new box_old setCells_grown grown_setAt own_low own_base txt_row nil_row clone_calls)
attribute [local go_sem] Oper.semAt_some
set_option linter.unusedVariables false
set_option linter.unusedSimpArgs false
set_option maxRecDepth 100000
/-! the closures of Waiting -/
/-- Draws and new blocks. -/
def Grw (w w' : World) : Prop := ∃ q os, w' = grow (w.drewN q) os
theorem Grw.refl (w : World) : Grw w w := ⟨0, #[], by rw [grow_empty]; rfl⟩
theorem Grw.drewN {w w' : World} (h : Grw w w') (n : Nat) : Grw w (w'.drewN n) := by
  obtain ⟨q, os, rfl⟩ := h
  exact ⟨q + n, os, by rw [← World.drewN_drewN]; rfl⟩
theorem Grw.drew {w w' : World} (h : Grw w w') : Grw w w'.drew := h.drewN 1
theorem Grw.alloc {w w' : World} (h : Grw w w') (o : Obj) : Grw w (w'.alloc o) := by
  obtain ⟨q, os, rfl⟩ := h
  exact ⟨q, os ++ #[o], by rw [alloc_eq_grow, grow_grow]⟩
theorem Grw.trans {a b x : World} (h : Grw a b) (k : Grw b x) : Grw a x := by
  obtain ⟨q, os, rfl⟩ := k
  obtain ⟨q2, os2, rfl⟩ := h
  exact ⟨q2 + q, os2 ++ os, by rw [show (grow (a.drewN q2) os2).drewN q = grow ((a.drewN q2).drewN q) os2 from rfl, grow_grow, World.drewN_drewN]⟩
theorem Grw.below {w w' : World} (h : Grw w w') : Below w.heap.size w w' := by
  obtain ⟨q, os, rfl⟩ := h
  refine ⟨rfl, rfl, rfl, ?_, fun k hk => ?_⟩
  · show w.heap.size ≤ (w.heap ++ os).size
    simp
  · exact heap_grow_old (w.drewN q) os hk
theorem cmp_calls (x y : Int) (w : World) : Calls Try.prog 63 #[.int .i64 x, .int .i64 y] w fun e w' => e = .returned (.int .i64 (Lib.compareInt x y)) ∧ w = w' := by
  have h := AnyG.cmp_Compare_int Try.cmpS x y w
  change Calls Try.prog 63 _ _ _ at h
  exact h.mono fun e w' ⟨h1, h2⟩ => ⟨h1, h2.symm⟩
set_option maxHeartbeats 1000000 in
theorem far_calls (w : World) (bd bp : Nat) (s q nv : Int) (hs : 0 ≤ s ∧ s ≤ 7) (hd : w.cell? ⟨bd, 0, none⟩ = some (.pointer (some ⟨bp, 0, none⟩))) (hn : w.cell? ⟨bp, s.toNat, none⟩ = some (.int .u16 nv)) :
    Calls Try.prog 57 #[.agg #[.int .i64 s, .int .u16 q], .pointer (some ⟨bd, 0, none⟩)] w fun e w' => e = .returned (.int .i64 ((q - nv) % 65536)) ∧ Grw w w' := by
  have h1 := lt_of_cell hd
  have h2 := lt_of_cell hn
  obtain ⟨W, hW⟩ : ∃ W, W = w.alloc (.cells #[.int .i64 s, .int .u16 q] 117) := ⟨_, rfl⟩
  have HG : Hid (Grw w W) := hid (by rw [hW]; exact (Grw.refl _).alloc _)
  have hk : W.heap[w.heap.size]? = some (.cells #[.int .i64 s, .int .u16 q] 117) := by rw [hW]; exact box_new _ _ rfl
  obtain ⟨k0, _⟩ := box_at hk 0
  obtain ⟨k1, _⟩ := box_at hk 1
  have d0 := (HG.out.below.cell (p := ⟨bd, 0, none⟩) h1).trans hd
  have n0 := (HG.out.below.cell (p := ⟨bp, s.toNat, none⟩) h2).trans hn
  have HW := hid hW
  obtain ⟨h0, h7⟩ := hs
  clear hW hk hd hn h1 h2
  go_enter Try.func57, Try.ntmps57
  go_upto_region 1 with fail
  rw [← HW.out]
  go_quiet ((go_at_call 58; exact Calls.quiet_of_same ((far16 _ _ _).mono fun e w' h => ⟨h.1, h.2.symm⟩)))
  go_wp2
  go_ret
  exact ⟨rfl, HG.out.drewN _⟩
theorem or_calls (w : World) (b : Nat) (x y : Int) (hx : w.cell? ⟨b, 0, none⟩ = some (.int .i64 x)) (hy : w.cell? ⟨b, 1, none⟩ = some (.int .i64 y)) :
    Calls Try.prog 62 #[.slice (some ⟨b, 0, none⟩) 2 2] w fun e w' => e = .returned (.int .i64 (if x = 0 then y else x)) ∧ w = w' := by
  by_cases h : x = 0
  · subst h
    by_cases h2 : y = 0
    · subst h2
      go_enter Try.func62, Try.ntmps62
      go_wp2_with fail
      refine wp_loop_rounds 3 ?_
      rw [rounds_succ]
      go_wp2_with fail
      rw [rounds_succ]
      go_wp2_with fail
      rw [rounds_succ]
      go_wp2
      go_ret
      exact ⟨rfl, rfl⟩
    · have hd : (y != 0) = true := by simpa using h2
      go_enter Try.func62, Try.ntmps62
      go_wp2_with fail
      refine wp_loop_rounds 3 ?_
      rw [rounds_succ]
      go_wp2_with fail
      rw [rounds_succ]
      go_wp2
      go_ret
      exact ⟨rfl, rfl⟩
  · have hd : (x != 0) = true := by simpa using h
    rw [if_neg h]
    go_enter Try.func62, Try.ntmps62
    go_wp2_with fail
    refine wp_loop_rounds 3 ?_
    rw [rounds_succ]
    go_wp2
    go_ret
    exact ⟨rfl, rfl⟩
end Go.Proofs.Ythoammfpjheodaa.Or
