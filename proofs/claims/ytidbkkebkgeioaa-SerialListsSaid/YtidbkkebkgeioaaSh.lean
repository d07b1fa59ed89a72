import Derived.Test.YtidbkkebkgeioaaSg
namespace Go.Proofs.Ytidbkkebkgeioaa.Sl
open Go.ChangeShapes Go.WideShapes Go.ChangeAt Go.RowKit Go.Shelf Go.Sort
open Base (hid cell_new1 cell_old1 froz_new1 froz_old1)
open TmA (own_some)
open It (runs)
attribute [local go_sem] Oper.semAt_some
set_option linter.unusedVariables false
set_option linter.unusedSimpArgs false
set_option maxRecDepth 100000
set_option maxHeartbeats 16000000 in
theorem rruns_calls (A : Option Addr) (c B : Nat) (l : List Int) (w : World) (hu : ∀ x ∈ l, U x) (hl : l.length ≤ 1000) (h : w.ownsRow B 3 1 (.slice A l.length c) l.length (l.map (.int .i64))) :
    Calls Try.prog 10 #[.slice A l.length c, .int .i64 4294967296] w fun e w' => ∃ v v', e = .returned (.tuple #[v, v']) ∧ w'.ownsRow w.heap.size 3 1 v (runs l).length ((runs l).map fun x => .int .i64 x.1) ∧ w'.ownsRow w.heap.size 3 1 v' (runs l).length ((runs l).map fun x => .int .i64 (x.2 : Nat)) ∧ Below w.heap.size w w' := by
  obtain ⟨i0, hi, hi0, hi1, hi2⟩ := info_parts info3
  have HL := hid h
  have HU := hid hu
  clear h hu
  go_enter Try.func10, Try.ntmps10
  go_wp2
  go_loopw [6, 7, 8] (fun v6 v7 v8 wr => ∃ (i n : Nat) (F M : List Int) (A6 : Option Addr) (c6 : Nat) (A7 : Option Addr) (c7 : Nat), i ≤ l.length ∧ v6 = .slice A6 n c6 ∧ v7 = .slice A7 n c7 ∧ v8 = .int .i64 i ∧ n ≤ i ∧ Hid (n = F.length) ∧ Hid (n = M.length) ∧ Hid (RunAt l i F M) ∧ Hid (wr.ownsRow w.heap.size 3 1 (.slice A6 n c6) n (F.map (.int .i64))) ∧ Hid (wr.ownsRow w.heap.size 3 1 (.slice A7 n c7) n (M.map (.int .i64))) ∧ Hid (Apart (.slice A6 n c6) (.slice A7 n c7)) ∧ Hid (Below w.heap.size w wr)) (fun _ _ v8 _ => l.length - (intOf v8).toNat)
  case atStart => exact ⟨0, 0, [], [], none, 0, none, 0, Nat.zero_le _, rfl, rfl, rfl, Nat.le_refl _, hid rfl, hid rfl, hid (RunAt.zero _), hid (World.ownsRow_nil _ _ _ _), hid (World.ownsRow_nil _ _ _ _), hid (fun k h => by simp [Value.ownBlock] at h), hid (Below.refl _ _)⟩
  case round =>
    obtain ⟨i, n, F, M, A6, c6, A7, c7, hil, rfl, rfl, rfl, hni, HF, HMM, HR, HO6, HO7, HX, HB⟩ := hrel
    by_cases hlt : i < l.length
    · obtain ⟨x, hx⟩ : ∃ x, l[i] = x := ⟨_, rfl⟩
      have hux : U x := HU.out x (hx ▸ List.getElem_mem hlt)
      obtain ⟨gl, rfl, cl0⟩ := cell_at HL.out rfl i hlt
      rw [hx] at cl0
      have HUX := hid hux
      have HCL := hid cl0
      have hgl := TmA.lt_of_cell cl0
      clear cl0 hux
      have q0 : wr.cell? ⟨gl, i, none⟩ = some (.int .i64 x) := ((HB.out).cell (p := ⟨gl, i, none⟩) hgl).trans HCL.out
      have hszwr := HB.out.size
      by_cases hz : i = 0
      · have d0 : decide ((0 : Int) < (i : Int)) = false := by simp; omega
        have d00 : decide (0 < i) = false := by simp; omega
        have d01 : ¬ 0 < i := by omega
        have HR2 : Hid (RunAt l (i + 1) (F ++ [x]) (M ++ [1])) := hid (by
          subst hz
          have := RunAt.first hlt (by rw [hx]; exact HUX.out) HR.out
          rwa [hx] at this)
        clear hz hx
        go_wp2
        go_quiet (fail)
        clear q0
        have ho6_ := Base.ownsRow_later HO6.out (TmA.below_drewN (Below.refl _ _) nq)
        have ho7_ := Base.ownsRow_later HO7.out (TmA.below_drewN (Below.refl _ _) nq)
        have hb_ := HB.out.trans (It.below_drewN' _ wr nq)
        generalize wr.drewN nq = Wa at *
        have HO6a := hid ho6_
        have HO7a := hid ho7_
        have HBa := hid hb_
        clear ho6_ ho7_ hb_
        have q0 : Wa.cell? ⟨gl, i, none⟩ = some (.int .i64 x) := ((HBa.out).cell (p := ⟨gl, i, none⟩) hgl).trans HCL.out
        have hszWa := HBa.out.size
        go_wp2_with (at_builtin; go_must (refine wpList_append_own_at _ rfl _ _ 25 rfl w.heap.size 3 i0 (.int .i64 0) 1 8 Try.underlying25 hi hi0 hi1 hi2 rfl (by decide) _ _ _ rfl (Base.ownsRow_later HO6a.out (TmA.below_alloc (Below.refl _ _) _)) ⟨Wa.heap.size, 0, none⟩ 1 1 [.int .i64 x] rfl rfl ?newsp ?onep ?c3p ?c4p ?c5p ?_))
        case newsp => exact news1 Wa x
        case onep => exact fun x hx => by rw [List.mem_singleton.1 hx]; rfl
        case c3p => unfold maxLen; omega
        case c4p => omega
        case c5p => simp; omega
        intro vp Wb ownp hgp _ hatp
        have HBb := hid (below_own _ HBa.out hszWa HO6a.out hgp)
        have HXb := hid (apart_app HX.out hatp HO7a.out)
        have HO7b := hid (World.ownsRow.kept (Base.ownsRow_later HO7a.out (TmA.below_alloc (Below.refl _ _) _)) hgp (apart_row HX.out))
        have HO6b : Hid (Wb.ownsRow w.heap.size 3 1 vp (n + 1) ((F ++ [x]).map (.int .i64))) := hid (by simpa using ownp)
        obtain ⟨Ap, dp, rfl, _⟩ := Base.slice_of_row ownp
        have hszWb := HBb.out.size
        clear ownp hgp hatp
        have HXc := hid HXb.out.symm
        go_wp2_with (at_builtin; go_must (refine wpList_append_own_at _ rfl _ _ 25 rfl w.heap.size 3 i0 (.int .i64 0) 1 8 Try.underlying25 hi hi0 hi1 hi2 rfl (by decide) _ _ _ rfl (Base.ownsRow_later HO7b.out (TmA.below_alloc (Below.refl _ _) _)) ⟨Wb.heap.size, 0, none⟩ 1 1 [.int .i64 1] rfl rfl ?newsq ?oneq ?c3q ?c4q ?c5q ?_))
        case newsq => exact news1 Wb 1
        case oneq => exact fun x hx => by rw [List.mem_singleton.1 hx]; rfl
        case c3q => unfold maxLen; omega
        case c4q => omega
        case c5q => simp; omega
        intro vq Wd ownq hgq _ hatq
        have HBd := hid (below_own _ HBb.out hszWb HO7b.out hgq)
        have HXd := hid (apart_app HXc.out hatq HO6b.out)
        have HO6d := hid (World.ownsRow.kept (Base.ownsRow_later HO6b.out (TmA.below_alloc (Below.refl _ _) _)) hgq (apart_row HXc.out))
        have HO7d : Hid (Wd.ownsRow w.heap.size 3 1 vq (n + 1) ((M ++ [1]).map (.int .i64))) := hid (by simpa using ownq)
        obtain ⟨Aq, dq, rfl, _⟩ := Base.slice_of_row ownq
        have hszWd := HBd.out.size
        clear ownq hgq hatq
        go_wp2
        go_roundw
        case rel => exact ⟨i + 1, n + 1, F ++ [x], M ++ [1], Ap, dp, Aq, dq, by omega, by first | trivial | rfl, by first | trivial | rfl, by go_num, by omega, hid (by have := HF.out; simp at this ⊢; omega), hid (by have := HMM.out; simp at this ⊢; omega), HR2, HO6d, HO7d, hid HXd.out.symm, HBd⟩
        case measure => simp [intOf]; omega
      · have d0 : decide ((0 : Int) < (i : Int)) = true := by simp; omega
        obtain ⟨z, hz2⟩ : ∃ z, l[i - 1]'(by omega) = z := ⟨_, rfl⟩
        have huz : U z := HU.out z (hz2 ▸ List.getElem_mem _)
        obtain ⟨gl', e', cz0⟩ := cell_at HL.out rfl (i - 1) (by omega)
        cases e'
        rw [hz2] at cz0
        have q1 : wr.cell? ⟨gl, i - 1, none⟩ = some (.int .i64 z) := (HB.out.cell (p := ⟨gl, i - 1, none⟩) hgl).trans cz0
        have hw1 : IntKind.i64.wrap ((i : Int) - 1) = ((i - 1 : Nat) : Int) := by rw [IntKind.wrap_i64]; omega
        have hw2 : ((i : Int) - 1).toNat = i - 1 := by omega
        have hb1 : (0 : Int) ≤ (i : Int) - 1 := by omega
        have hb2 : (i : Int) - 1 < (l.length : Int) := by omega
        by_cases hgo : x = (z + 1) % 4294967296
        · have d1 : (x == (z + 1) % 4294967296) = true := by simpa using hgo
          have hrg := HR.out.go (by omega) hlt (by rw [hx, hz2]; exact hgo)
          have hll := HR.out.len
          have HRG := hid hrg
          have HLL := hid hll
          have hi0' : 0 < i := by omega
          clear hx hz hz2 cz0 hgo hrg hll
          go_wp2
          have huz_ := huz
          go_quiet ((go_at_call 12; exact Calls.quiet_of_same ((rstep_calls _ _ (by assumption) _).mono fun e w' h => ⟨h.1, h.2.symm⟩)))
          clear q0 q1 huz_
          have ho6_ := Base.ownsRow_later HO6.out (TmA.below_drewN (Below.refl _ _) nq)
          have ho7_ := Base.ownsRow_later HO7.out (TmA.below_drewN (Below.refl _ _) nq)
          have hb_ := HB.out.trans (It.below_drewN' _ wr nq)
          generalize wr.drewN nq = Wa at *
          have HO6a := hid ho6_
          have HO7a := hid ho7_
          have HBa := hid hb_
          clear ho6_ ho7_ hb_
          obtain ⟨M0, mm, hMM, hm0, hmi, hRA⟩ := HRG.out
          have hn1 : n = M0.length + 1 := by rw [HMM.out, hMM, List.length_append]; rfl
          obtain ⟨g7, ct, e7, _⟩ := own_some HO7a.out (by omega)
          simp only [Value.slice.injEq] at e7
          obtain ⟨rfl, _, _⟩ := e7
          have hml : M0.length < (M0 ++ [mm]).length := by simp
          have c7m : Wa.cell? ⟨g7, M0.length, none⟩ = some (.int .i64 mm) := by
            have h1 := HO7a.out.cells (g := g7) rfl M0.length (.int .i64 mm) (by rw [hMM]; simp)
            rw [TmA.add0] at h1
            exact h1
          have f7m : Wa.frozen? ⟨g7, M0.length, none⟩ = false := by
            rcases HO7a.out.2 with ⟨e, _⟩ | ⟨g', cap, cur, e, hb, hg, _⟩
            · cases e
            · cases e
              simp [World.frozen?, hg]
          have hset := own_set HO7a.out (k := M0.length) (by omega) HMM.out (mm + 1)
          rw [hMM, List.set_append_right _ _ (Nat.le_refl _), Nat.sub_self, List.set_cons_zero] at hset
          have hg7 := (own_base HO7a.out (v := .slice (some ⟨g7, 0, none⟩) n c7) rfl).1
          have hgs : Wa.grownBy (Wa.setCell ⟨g7, M0.length, none⟩ (.int .i64 (mm + 1))) (some g7) := grown_setAt _ _ _ _
          have HB2 := hid (HBa.out.grown hgs HBa.out.size (fun k e => by cases e; exact hg7))
          have HO62 := hid (World.ownsRow.kept HO6a.out hgs (by
            rcases h' : (Value.slice A6 n c6).ownBlock with _ | k
            · exact .inl rfl
            · exact .inr fun e => HX.out k h' e.symm))
          have HO72 := hid hset
          have HRA2 := hid hRA
          have HN1 := hid hn1
          have hw3 : wrap64 ((n : Int) - 1) = (M0.length : Int) := by rw [hn1]; unfold wrap64; simp; omega
          have hw4 : (n : Int) - 1 = (M0.length : Int) := by rw [hn1]; simp
          have hw5 : ((n : Int) - 1).toNat = M0.length := by omega
          have hw6 : (0 : Int) ≤ (n : Int) - 1 := by omega
          have hw7 : (M0.length : Int) < (n : Int) := by omega
          have hw8 : wrap64 (mm + 1) = mm + 1 := by unfold wrap64; omega
          clear hset hgs hMM hRA hn1 HRG
          go_wp2
          go_roundw
          case rel => exact ⟨i + 1, n, F, M0 ++ [mm + 1], A6, c6, some ⟨g7, 0, none⟩, c7, by omega, by first | trivial | rfl, by first | trivial | rfl, by go_num, by omega, HF, hid (by have := HN1.out; simp; omega), HRA2, HO62, HO72, HX, HB2⟩
          case measure => simp [intOf]; omega
        · have d1 : (x == (z + 1) % 4294967296) = false := by simpa using hgo
          have HR2 : Hid (RunAt l (i + 1) (F ++ [x]) (M ++ [1])) := hid (by
            have := HR.out.stop (by omega) hlt (by rw [hx]; exact HUX.out) (by rw [hx, hz2]; exact hgo)
            rwa [hx] at this)
          have hi0' : 0 < i := by omega
          clear hx hz hz2 cz0 hgo
          go_wp2
          have huz_ := huz
          go_quiet ((go_at_call 12; exact Calls.quiet_of_same ((rstep_calls _ _ (by assumption) _).mono fun e w' h => ⟨h.1, h.2.symm⟩)))
          clear q0 q1 huz_
          have ho6_ := Base.ownsRow_later HO6.out (TmA.below_drewN (Below.refl _ _) nq)
          have ho7_ := Base.ownsRow_later HO7.out (TmA.below_drewN (Below.refl _ _) nq)
          have hb_ := HB.out.trans (It.below_drewN' _ wr nq)
          generalize wr.drewN nq = Wa at *
          have HO6a := hid ho6_
          have HO7a := hid ho7_
          have HBa := hid hb_
          clear ho6_ ho7_ hb_
          have q0 : Wa.cell? ⟨gl, i, none⟩ = some (.int .i64 x) := ((HBa.out).cell (p := ⟨gl, i, none⟩) hgl).trans HCL.out
          have hszWa := HBa.out.size
          go_wp2_with (at_builtin; go_must (refine wpList_append_own_at _ rfl _ _ 25 rfl w.heap.size 3 i0 (.int .i64 0) 1 8 Try.underlying25 hi hi0 hi1 hi2 rfl (by decide) _ _ _ rfl (Base.ownsRow_later HO6a.out (TmA.below_alloc (Below.refl _ _) _)) ⟨Wa.heap.size, 0, none⟩ 1 1 [.int .i64 x] rfl rfl ?newsr ?oner ?c3r ?c4r ?c5r ?_))
          case newsr => exact news1 Wa x
          case oner => exact fun x hx => by rw [List.mem_singleton.1 hx]; rfl
          case c3r => unfold maxLen; omega
          case c4r => omega
          case c5r => simp; omega
          intro vp Wb ownp hgp _ hatp
          have HBb := hid (below_own _ HBa.out hszWa HO6a.out hgp)
          have HXb := hid (apart_app HX.out hatp HO7a.out)
          have HO7b := hid (World.ownsRow.kept (Base.ownsRow_later HO7a.out (TmA.below_alloc (Below.refl _ _) _)) hgp (apart_row HX.out))
          have HO6b : Hid (Wb.ownsRow w.heap.size 3 1 vp (n + 1) ((F ++ [x]).map (.int .i64))) := hid (by simpa using ownp)
          obtain ⟨Ap, dp, rfl, _⟩ := Base.slice_of_row ownp
          have hszWb := HBb.out.size
          clear ownp hgp hatp
          have HXc := hid HXb.out.symm
          go_wp2_with (at_builtin; go_must (refine wpList_append_own_at _ rfl _ _ 25 rfl w.heap.size 3 i0 (.int .i64 0) 1 8 Try.underlying25 hi hi0 hi1 hi2 rfl (by decide) _ _ _ rfl (Base.ownsRow_later HO7b.out (TmA.below_alloc (Below.refl _ _) _)) ⟨Wb.heap.size, 0, none⟩ 1 1 [.int .i64 1] rfl rfl ?newst ?onet ?c3t ?c4t ?c5t ?_))
          case newst => exact news1 Wb 1
          case onet => exact fun x hx => by rw [List.mem_singleton.1 hx]; rfl
          case c3t => unfold maxLen; omega
          case c4t => omega
          case c5t => simp; omega
          intro vq Wd ownq hgq _ hatq
          have HBd := hid (below_own _ HBb.out hszWb HO7b.out hgq)
          have HXd := hid (apart_app HXc.out hatq HO6b.out)
          have HO6d := hid (World.ownsRow.kept (Base.ownsRow_later HO6b.out (TmA.below_alloc (Below.refl _ _) _)) hgq (apart_row HXc.out))
          have HO7d : Hid (Wd.ownsRow w.heap.size 3 1 vq (n + 1) ((M ++ [1]).map (.int .i64))) := hid (by simpa using ownq)
          obtain ⟨Aq, dq, rfl, _⟩ := Base.slice_of_row ownq
          have hszWd := HBd.out.size
          clear ownq hgq hatq
          go_wp2
          go_roundw
          case rel => exact ⟨i + 1, n + 1, F ++ [x], M ++ [1], Ap, dp, Aq, dq, by omega, by first | trivial | rfl, by first | trivial | rfl, by go_num, by omega, hid (by have := HF.out; simp at this ⊢; omega), hid (by have := HMM.out; simp at this ⊢; omega), HR2, HO6d, HO7d, hid HXd.out.symm, HBd⟩
          case measure => simp [intOf]; omega
    · have hil2 : i = l.length := by omega
      have hr := HR.out
      rw [hil2] at hr
      have hfin := hr.fin
      have HFIN := hid hfin
      clear hr hfin
      go_wp2
      go_ret2
      have h6 := HO6.out
      have h7 := HO7.out
      have hn : n = (runs l).length := by rw [HF.out, HFIN.out.1, List.length_map]
      rw [HFIN.out.1, List.map_map] at h6
      rw [HFIN.out.2, List.map_map] at h7
      subst hn
      exact ⟨_, _, rfl, h6, h7, HB.out⟩
end Go.Proofs.Ytidbkkebkgeioaa.Sl
