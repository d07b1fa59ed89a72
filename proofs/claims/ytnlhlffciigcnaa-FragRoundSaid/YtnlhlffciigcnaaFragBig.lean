-- The print of copied, Ints and Groups, over a Clone of up to 2^47 bytes.
import Derived.Test.YtnlhlffciigcnaaQFragx0
import Derived.Test.YtnlhlffciigcnaaGivFrag
namespace Go.Proofs.Ytnlhlffciigcnaa.QFrag.Big
open Go.RowKit Go.Proofs.YtnlhlffciigcnaaW.PrintWords Go.Proofs.YtnlhlffciigcnaaW.PrintLast Go.Proofs.YtnlhlffciigcnaaW.PrintMore Go.ChangeShapes Go.WideShapes Go.ChangeAt Go.Shelf
open Base (hid slice_of_row ret_bool cell_new1 cell_old1 froz_new1 froz_old1)
section
attribute [local go_sem] Oper.semAt_some
def slices_Clone_byte_byte.f (l0 : List Int) : Option (List Int) := if l0.length ≤ 140737488355328 then some l0 else none
set_option maxRecDepth 100000 in
theorem slices_Clone_byte_byte.calls (A0 : Option Addr) (c0 : Nat) (l0 : List Int) (r : List Int) (w : World) (hr0 : Kd.C (Kd.int .u8) w A0 l0.length l0) (_hc0 : l0.length ≤ c0) (h : slices_Clone_byte_byte.f l0 = some r) :
    Calls Try.prog 76 #[.slice A0 l0.length c0] w fun e w' => ∃ v0_ : Value, e = .returned v0_ ∧ Kd.R (Kd.int .u8) 5 w' w.heap.size (fun _ => True) v0_ r ∧ Below w.heap.size w w' := by
  obtain ⟨i0, hi, hz0, hz1, hz2⟩ := info_parts info5
  unfold slices_Clone_byte_byte.f at h
  split at h
  case isFalse => cases h
  rename_i hlim
  cases h
  cases A0 with
  | none =>
    have hx : l0 = [] := by
      rcases Nat.eq_zero_or_pos l0.length with h | h
      · exact List.eq_nil_of_length_eq_zero h
      · obtain ⟨ad, e, _⟩ := news_of_C hr0 h
        cases e
    subst hx
    have h0 := fun w => Lib.run_eql_slice_nil (P := Try.prog) w 75 5 none 0 c0 0 0 Try.underlying75
    go_enter Try.func76, Try.ntmps76
    go_wp2
    go_ret
    exact ⟨_, rfl, Kd.R_nil _ _ _ _ _, Below.refl _ _⟩
  | some ad =>
    have hnews : ∀ j u, (l0.map (Value.int .u8))[j]? = some u → (w.alloc (.cells #[] 5)).cell? (ad.add j) = some u := by
      intro j u hu
      rcases Nat.eq_zero_or_pos l0.length with h | h
      · have : l0 = [] := List.eq_nil_of_length_eq_zero h
        subst this; simp at hu
      · obtain ⟨ad', e, hc⟩ := news_of_C (Kd.C_alloc hr0 (.cells #[] 5)) h
        cases e
        exact hc j u hu
    have HN := hid hnews
    have h0 := fun w => Lib.run_eql_slice_nil (P := Try.prog) w 75 5 (some ad) l0.length c0 0 0 Try.underlying75
    clear hnews hr0
    go_enter Try.func76, Try.ntmps76
    go_wp2_with (at_builtin; refine wpList_append_own _ rfl _ _ 75 rfl w.heap.size 5 i0 (.int .u8 0) 1 1 Try.underlying75 hi hz0 hz1 hz2 rfl (by decide) _ 0 [] rfl (World.ownsRow_made _ #[] 0 (Nat.le_refl _) (by decide) rfl) ad l0.length c0 (l0.map (Value.int .u8)) rfl (by simp) HN.out (one_ints _ _) ?c3 ?c4 ?c5 ?_)
    case c3 => unfold maxLen; omega
    case c4 => omega
    case c5 => simp
    intro v' w1 hown' hgrow _
    go_wp2
    go_ret
    refine ⟨_, rfl, R_of (by simpa using hown'), (((Below.refl _ w).alloc (Nat.le_refl _) _).grown hgrow (by simp) ?_)⟩
    intro k hk
    simp [Value.ownBlock] at hk
    omega
end
open Go.RowKit Go.Proofs.YtnlhlffciigcnaaW.PrintWords Go.Proofs.YtnlhlffciigcnaaW.PrintLast Go.Proofs.YtnlhlffciigcnaaW.PrintMore
attribute [local go_sem] max2_int min2_int max_two min_two max_three min_three max_four min_four   -- for this text's walks alone
set_option linter.unusedVariables false
set_option linter.unusedSimpArgs false

-- NOT PRINTED: function 9 (weftlinelaw16_FragWholes)

/-! ### frag_copied: function 79 -/
def frag_copied.l0 : Nat → List (S93) → List (S93) → Int → Int → Option ((List (S93)))
  | 0, _, _, _, _ => none
  | k + 1, x3, x6, x7, x8 => if x8 < x7 then (if 0 ≤ x8 then (if x8 < (x6.length : Int) then ((slices_Clone_byte_byte.f ((rd_T93 x6 x8).f6)).bind fun t285 => (if x3.length < 3518437208883 then (frag_copied.l0 k (x3 ++ [(⟨(rd_T93 x6 x8).f0, (rd_T93 x6 x8).f1, (rd_T93 x6 x8).f2, (rd_T93 x6 x8).f3, (rd_T93 x6 x8).f4, (rd_T93 x6 x8).f5, t285⟩ : S93)]) x6 x7 (wrap64 (x8 + 1))) else (none))) else (none)) else (none)) else (some x3)
def frag_copied.f (k : Nat) (l0 : List (S93)) : Option ((List (S93))) := frag_copied.l0 k ([] : List (S93)) l0 (l0.length : Int) 0
theorem frag_copied.mono_l : ∀ k, (∀ y0 y1 y2 y3, LeO (frag_copied.l0 k y0 y1 y2 y3) (frag_copied.l0 (k + 1) y0 y1 y2 y3))
  | 0 => fun _ _ _ _ r h => by simp [frag_copied.l0] at h
  | k + 1 => by
    have ih0 := frag_copied.mono_l k
    · intro y0 y1 y2 y3
      unfold frag_copied.l0
      repeat' first
      | (with_reducible exact ih0 _ _ _ _)
      | (with_reducible exact LeO.refl _)
      | (with_reducible exact LeO.none _)
      | (with_reducible refine LeO.ite ?_ ?_)
      | (with_reducible refine LeO.bind ?_ (fun _ => ?_))
      | exact ih0 _ _ _ _
      | exact LeO.none _
      | refine LeO.ite ?_ ?_
      | refine LeO.bind ?_ (fun _ => ?_)
theorem frag_copied.mono : ∀ a0 k, LeO (frag_copied.f k a0) (frag_copied.f (k + 1) a0) := by
  intro a0 k
  have ih0 := frag_copied.mono_l k
  unfold frag_copied.f
  repeat' first
      | (with_reducible exact ih0 _ _ _ _)
      | (with_reducible exact LeO.refl _)
      | (with_reducible exact LeO.none _)
      | (with_reducible refine LeO.ite ?_ ?_)
      | (with_reducible refine LeO.bind ?_ (fun _ => ?_))
      | exact ih0 _ _ _ _
      | exact LeO.none _
      | refine LeO.ite ?_ ?_
      | refine LeO.bind ?_ (fun _ => ?_)
set_option maxHeartbeats 8000000 in
set_option maxRecDepth 100000 in
theorem frag_copied.calls (k : Nat) (A0 : Option Addr) (c0 : Nat) (l0 : List (S93)) (r : List (S93)) (w : World) (hr0 : Kd.C k93 w A0 l0.length l0) (hc0 : l0.length ≤ c0) (h : frag_copied.f k l0 = some r) :
    Calls Try.prog 79 #[.slice A0 l0.length c0] w fun e w' => ∃ v0_ : Value, e = .returned (v0_) ∧ Kd.S k93 93 w' w.heap.size (fun _ => True) v0_ r ∧ Below w.heap.size w w' := by
  have hu93 := Try.underlying93
  have HR0 := Aside0.mk hr0
  have HC0 := Aside0.mk hc0
  clear hr0 hc0
  have HB := Aside0.mk (Below.refl w.heap.size w)
  have H : (frag_copied.l0 k ([] : List (S93)) l0 (l0.length : Int) 0) = some r := h
  clear h
  have H' := Aside0.mk H
  clear H
  go_enter Try.func79, Try.ntmps79
  go_wp2
  go_loopg [3, 8] k (fun kq v3 v8 w' => ∃ (x3_1 : List (S93)) (x8_1 : Int), v8 = .int .i64 x8_1 ∧ Aside0 (frag_copied.l0 kq x3_1 l0 (l0.length : Int) x8_1 = some r) ∧ Aside0 (kq ≤ k) ∧ Aside0 (Kd.S k93 93 w' w.heap.size (fun _ => True) v3 x3_1) ∧ Aside0 (Below w.heap.size w w'))
  case atStart => exact ⟨(([] : List (S93))), (0), (by first | rfl | (simp; done) | (simp [*]; done)), H', ⟨Nat.le_refl _⟩, ⟨by first | exact Kd.S_nil _ _ _ _ _ | exact Kd.N_nil _ _ _ _ _ | exact Kd.V_nil _ _ _ _ _ | exact Kd.Q_nil _ _ _ _ _ | exact Kd.R_nil _ _ _ _ _⟩, ⟨by repeat (first | (with_reducible first | exact HB.out | apply below_alloc | apply pw_below_drewN | apply below_drew1) | exact HB.out)⟩⟩
  case round =>
    clear H'
    obtain ⟨x3_1, x8_1, rfl, HA, HK1, HO_3, HB⟩ := hrel
    cases gk with
    | zero => exact absurd HA.out (by simp [frag_copied.l0])
    | succ k1 =>
      have H := HA.out
      clear HA
      simp only [frag_copied.l0] at H
      by_cases c2 : x8_1 < (l0.length : Int)
      · rw [if_pos c2] at H
        have c2b0 : decide (x8_1 < (l0.length : Int)) = true := decide_eq_true c2
        clear c2
        by_cases c3 : 0 ≤ x8_1
        · rw [if_pos c3] at H
          have c3b0 : decide (0 ≤ x8_1) = true := decide_eq_true c3
          clear c3
          by_cases c4 : x8_1 < (l0.length : Int)
          · rw [if_pos c4] at H
            have c4b0 : decide (x8_1 < (l0.length : Int)) = true := decide_eq_true c4
            clear c4
            replace H := Option.bind_eq_some_iff.mp H
            obtain ⟨t285, A50, H⟩ := H
            replace H : (if x3_1.length < 3518437208883 then (frag_copied.l0 k1 (x3_1 ++ [(⟨(rd_T93 l0 x8_1).f0, (rd_T93 l0 x8_1).f1, (rd_T93 l0 x8_1).f2, (rd_T93 l0 x8_1).f3, (rd_T93 l0 x8_1).f4, (rd_T93 l0 x8_1).f5, t285⟩ : S93)]) l0 (l0.length : Int) (wrap64 (x8_1 + 1))) else (none)) = some r := H
            have A5 := Aside0.mk A50
            clear A50
            by_cases c6 : x3_1.length < 3518437208883
            · rw [if_pos c6] at H
              have LMc6 := Aside0.mk c6
              clear c6
              obtain ⟨y288, hy288⟩ : ∃ y_ : List (S93), y_ = (x3_1 ++ [(⟨(rd_T93 l0 x8_1).f0, (rd_T93 l0 x8_1).f1, (rd_T93 l0 x8_1).f2, (rd_T93 l0 x8_1).f3, (rd_T93 l0 x8_1).f4, (rd_T93 l0 x8_1).f5, t285⟩ : S93)]) := ⟨_, rfl⟩
              replace H : (frag_copied.l0 k1 y288 l0 (l0.length : Int) (wrap64 (x8_1 + 1))) = some r := by first | (rw [hy288]; with_reducible exact H) | (have H2_ := (Option.bind_some _ _).symm.trans H; rw [hy288]; with_reducible exact H2_) | (have H2_ := (Option.bind_some _ _).symm.trans H; with_reducible exact H2_) | with_reducible exact H | (rw [hy288]; exact H) | exact H
              have Ny288 := Aside0.mk hy288
              clear hy288
              have H' := Aside0.mk H
              clear H
              have p283 : 0 ≤ (x8_1 : Int) := of_decide_eq_true (by first | (with_reducible assumption) | assumption)
              have q283 : x8_1 < (l0.length : Int) := of_decide_eq_true (by first | (with_reducible assumption) | assumption)
              obtain ⟨ad283, A283_6, c283_6, e283, hx283_0, hx283_1, hx283_2, hx283_3, hx283_4, hx283_5, hx283_6, hl283_6, hi283_6⟩ := at_T93 HR0.out x8_1 p283 q283
              cases e283
              replace hx283_0 := (HB.out.cell (World.block_lt_of_cell? w _ hx283_0)).trans hx283_0
              replace hx283_1 := (HB.out.cell (World.block_lt_of_cell? w _ hx283_1)).trans hx283_1
              replace hx283_2 := (HB.out.cell (World.block_lt_of_cell? w _ hx283_2)).trans hx283_2
              replace hx283_3 := (HB.out.cell (World.block_lt_of_cell? w _ hx283_3)).trans hx283_3
              replace hx283_4 := (HB.out.cell (World.block_lt_of_cell? w _ hx283_4)).trans hx283_4
              replace hx283_5 := (HB.out.cell (World.block_lt_of_cell? w _ hx283_5)).trans hx283_5
              replace hx283_6 := (HB.out.cell (World.block_lt_of_cell? w _ hx283_6)).trans hx283_6
              have HR283_6 := Aside0.mk hi283_6
              have HC283_6 := Aside0.mk hl283_6
              clear hi283_6 hl283_6
              replace p283 := eq_true p283
              replace q283 := eq_true q283
              go_wp2_with (first | ((with_reducible refine gate_dst (N := 5) rfl ?_); refine box_event ?hg (N := 5) ?hd (cs := #[.int .u32 0, .int .u16 0, .int .u16 0, .bool false, .bool false, .bool false, .slice none 0 0]) (t := 93) ?hr ?_; (case hd => rfl); (case hg => rfl); (case hr => first | (go_simp; done) | (go_simp; rfl)); intro gb284 hg w7 hbox hb; have n0_ := Aside0.mk (Kd.S_below (Kd.S_elderB (by (with_reducible repeat (first | apply Kd.S_alloc | apply Kd.S_drewN | apply Kd.S_drew)); exact HO_3.out) gb284 (Nat.le_of_eq hg.symm)) hb); have n1_ := Aside0.mk (below_step (by repeat (first | (with_reducible first | exact HB.out | apply below_alloc | apply pw_below_drewN | apply below_drew1) | exact HB.out)) hb); have n2_ := Aside0.mk (hbox); have n3_ := Aside0.mk ((by rw [hg]; exact (below_size (by repeat (first | (with_reducible first | exact HB.out | apply below_alloc | apply pw_below_drewN | apply below_drew1) | exact HB.out))) : w.heap.size ≤ gb284)); have n4_ := Aside0.mk ((by rw [hg]; exact (below_size (by repeat (first | (with_reducible first | exact HB.out | apply below_alloc | apply pw_below_drewN | apply below_drew1) | exact HB.out))) : w.heap.size ≤ gb284)); clear HO_3; clear HB; have HO_3 := n0_; have HB := n1_; have BK284 := n2_; have GW284 := n3_; have GE284 := n4_; clear n0_ n1_ n2_ n3_ n4_; clear hb hbox hg; have hcz8_0 : w7.cell? ⟨gb284, 0, none⟩ = some (.int .u32 0) := (blk_cell BK284.out 0).trans rfl; have hcz8_1 : w7.cell? ⟨gb284, 1, none⟩ = some (.int .u16 0) := (blk_cell BK284.out 1).trans rfl; have hcz8_2 : w7.cell? ⟨gb284, 2, none⟩ = some (.int .u16 0) := (blk_cell BK284.out 2).trans rfl; have hcz8_3 : w7.cell? ⟨gb284, 3, none⟩ = some (.bool false) := (blk_cell BK284.out 3).trans rfl; have hcz8_4 : w7.cell? ⟨gb284, 4, none⟩ = some (.bool false) := (blk_cell BK284.out 4).trans rfl; have hcz8_5 : w7.cell? ⟨gb284, 5, none⟩ = some (.bool false) := (blk_cell BK284.out 5).trans rfl; have hcz8_6 : w7.cell? ⟨gb284, 6, none⟩ = some (.slice none 0 0) := (blk_cell BK284.out 6).trans rfl; have hfz8_0 := blk_frozen BK284.out 0; have hfz8_1 := blk_frozen BK284.out 1; have hfz8_2 := blk_frozen BK284.out 2; have hfz8_3 := blk_frozen BK284.out 3; have hfz8_4 := blk_frozen BK284.out 4; have hfz8_5 := blk_frozen BK284.out 5; have hfz8_6 := blk_frozen BK284.out 6) | ((with_reducible refine gate_callee (f := 76) rfl ?_); refine goesL_ (some 14) rfl rfl Try.func76 (by kernel_rfl) rfl #[.slice A283_6 ((rd_T93 l0 x8_1).f6).length c283_6] rfl (by (try simp only [List.map_toArray, List.map_cons, List.map_nil]); first | done | rfl | (simp only [List.length_drop, List.length_take]; rfl)) ?_; (with_reducible refine (slices_Clone_byte_byte.calls _ _ ((rd_T93 l0 x8_1).f6) t285 _ ?side1 ?side2 A5.out).mono ?_); (case side1 => exact Kd.C_below HR283_6.out (by repeat (first | (with_reducible first | exact HB.out | apply below_alloc | apply pw_below_drewN | apply below_drew1 | refine below_set ?_ GE284.out) | exact HB.out))); (case side2 => exact HC283_6.out); rintro e w9 ⟨v286, rfl, ho0, hb⟩; refine ⟨_, rfl, ?_⟩; have n0_ := Aside0.mk (Kd.S_elder' (by (with_reducible repeat (first | apply Kd.S_alloc | apply Kd.S_drewN | apply Kd.S_drew)); exact (Kd.S_mono (Kd.S_far (p := ⟨gb284, 6, none⟩) (Kd.S_far (p := ⟨gb284, 5, none⟩) (Kd.S_far (p := ⟨gb284, 4, none⟩) (Kd.S_far (p := ⟨gb284, 3, none⟩) (Kd.S_far (p := ⟨gb284, 2, none⟩) (Kd.S_far (p := ⟨gb284, 1, none⟩) (Kd.S_far (p := ⟨gb284, 0, none⟩) (Kd.S_mono HO_3.out (fun k_ hk => (⟨hk, hk.2⟩ : _ ∧ k_ ≠ gb284))) (fun _ hk => hk.2) (.int .u32 ((rd_T93 l0 x8_1).f0))) (fun _ hk => hk.2) (.int .u16 ((rd_T93 l0 x8_1).f1))) (fun _ hk => hk.2) (.int .u16 ((rd_T93 l0 x8_1).f2))) (fun _ hk => hk.2) (.bool ((rd_T93 l0 x8_1).f3))) (fun _ hk => hk.2) (.bool ((rd_T93 l0 x8_1).f4))) (fun _ hk => hk.2) (.bool ((rd_T93 l0 x8_1).f5))) (fun _ hk => hk.2) (.slice A283_6 ((rd_T93 l0 x8_1).f6).length c283_6)) (fun _ h_ => h_.1))) (Kd.R_base ho0) hb); have n1_ := Aside0.mk (Kd.R_lower ho0 (below_size (by repeat (first | (with_reducible first | exact HB.out | apply below_alloc | apply pw_below_drewN | apply below_drew1 | refine below_set ?_ GE284.out) | exact HB.out)))); have n2_ := Aside0.mk (blk_below (g := gb284) (o := .cells #[.int .u32 ((rd_T93 l0 x8_1).f0), .int .u16 ((rd_T93 l0 x8_1).f1), .int .u16 ((rd_T93 l0 x8_1).f2), .bool ((rd_T93 l0 x8_1).f3), .bool ((rd_T93 l0 x8_1).f4), .bool ((rd_T93 l0 x8_1).f5), .slice A283_6 ((rd_T93 l0 x8_1).f6).length c283_6] 93 (0, 0)) (by (with_reducible repeat (first | refine blk_drewN ?_ _ | refine blk_drew ?_ | refine blk_alloc ?_ _)); refine blk_put (cs := #[.int .u32 ((rd_T93 l0 x8_1).f0), .int .u16 ((rd_T93 l0 x8_1).f1), .int .u16 ((rd_T93 l0 x8_1).f2), .bool ((rd_T93 l0 x8_1).f3), .bool ((rd_T93 l0 x8_1).f4), .bool ((rd_T93 l0 x8_1).f5), .slice none 0 0]) ?_ 6 _ rfl; (with_reducible repeat (first | refine blk_drewN ?_ _ | refine blk_drew ?_ | refine blk_alloc ?_ _)); refine blk_put (cs := #[.int .u32 ((rd_T93 l0 x8_1).f0), .int .u16 ((rd_T93 l0 x8_1).f1), .int .u16 ((rd_T93 l0 x8_1).f2), .bool ((rd_T93 l0 x8_1).f3), .bool ((rd_T93 l0 x8_1).f4), .bool false, .slice none 0 0]) ?_ 5 _ rfl; (with_reducible repeat (first | refine blk_drewN ?_ _ | refine blk_drew ?_ | refine blk_alloc ?_ _)); refine blk_put (cs := #[.int .u32 ((rd_T93 l0 x8_1).f0), .int .u16 ((rd_T93 l0 x8_1).f1), .int .u16 ((rd_T93 l0 x8_1).f2), .bool ((rd_T93 l0 x8_1).f3), .bool false, .bool false, .slice none 0 0]) ?_ 4 _ rfl; (with_reducible repeat (first | refine blk_drewN ?_ _ | refine blk_drew ?_ | refine blk_alloc ?_ _)); refine blk_put (cs := #[.int .u32 ((rd_T93 l0 x8_1).f0), .int .u16 ((rd_T93 l0 x8_1).f1), .int .u16 ((rd_T93 l0 x8_1).f2), .bool false, .bool false, .bool false, .slice none 0 0]) ?_ 3 _ rfl; (with_reducible repeat (first | refine blk_drewN ?_ _ | refine blk_drew ?_ | refine blk_alloc ?_ _)); refine blk_put (cs := #[.int .u32 ((rd_T93 l0 x8_1).f0), .int .u16 ((rd_T93 l0 x8_1).f1), .int .u16 0, .bool false, .bool false, .bool false, .slice none 0 0]) ?_ 2 _ rfl; (with_reducible repeat (first | refine blk_drewN ?_ _ | refine blk_drew ?_ | refine blk_alloc ?_ _)); refine blk_put (cs := #[.int .u32 ((rd_T93 l0 x8_1).f0), .int .u16 0, .int .u16 0, .bool false, .bool false, .bool false, .slice none 0 0]) ?_ 1 _ rfl; (with_reducible repeat (first | refine blk_drewN ?_ _ | refine blk_drew ?_ | refine blk_alloc ?_ _)); refine blk_put (cs := #[.int .u32 0, .int .u16 0, .int .u16 0, .bool false, .bool false, .bool false, .slice none 0 0]) ?_ 0 _ rfl; (with_reducible repeat (first | refine blk_drewN ?_ _ | refine blk_drew ?_ | refine blk_alloc ?_ _)); exact BK284.out) hb); have n3_ := Aside0.mk (below_step (by repeat (first | (with_reducible first | exact HB.out | apply below_alloc | apply pw_below_drewN | apply below_drew1 | refine below_set ?_ GE284.out) | exact HB.out)) hb); clear HO_3; clear BK284; clear HB; have HO_3 := n0_; have HO287 := n1_; have BK284 := n2_; have HB := n3_; clear n0_ n1_ n2_ n3_; (try clear hb); (try clear hb2); (try clear hk); (try clear hi); (try clear ho0); obtain ⟨Ao10, co10, eo10⟩ := Kd.R_slice HO287.out; subst eo10; have hcz11_0 : w9.cell? ⟨gb284, 0, none⟩ = some (.int .u32 ((rd_T93 l0 x8_1).f0)) := (blk_cell BK284.out 0).trans rfl; have hcz11_1 : w9.cell? ⟨gb284, 1, none⟩ = some (.int .u16 ((rd_T93 l0 x8_1).f1)) := (blk_cell BK284.out 1).trans rfl; have hcz11_2 : w9.cell? ⟨gb284, 2, none⟩ = some (.int .u16 ((rd_T93 l0 x8_1).f2)) := (blk_cell BK284.out 2).trans rfl; have hcz11_3 : w9.cell? ⟨gb284, 3, none⟩ = some (.bool ((rd_T93 l0 x8_1).f3)) := (blk_cell BK284.out 3).trans rfl; have hcz11_4 : w9.cell? ⟨gb284, 4, none⟩ = some (.bool ((rd_T93 l0 x8_1).f4)) := (blk_cell BK284.out 4).trans rfl; have hcz11_5 : w9.cell? ⟨gb284, 5, none⟩ = some (.bool ((rd_T93 l0 x8_1).f5)) := (blk_cell BK284.out 5).trans rfl; have hcz11_6 : w9.cell? ⟨gb284, 6, none⟩ = some (.slice A283_6 ((rd_T93 l0 x8_1).f6).length c283_6) := (blk_cell BK284.out 6).trans rfl; have hfz11_0 := blk_frozen BK284.out 0; have hfz11_1 := blk_frozen BK284.out 1; have hfz11_2 := blk_frozen BK284.out 2; have hfz11_3 := blk_frozen BK284.out 3; have hfz11_4 := blk_frozen BK284.out 4; have hfz11_5 := blk_frozen BK284.out 5; have hfz11_6 := blk_frozen BK284.out 6) | ((with_reducible refine gate_store (t := 75) (p := 15) rfl ?_); refine store_event (t := 75) (p := 15) (v := ?vo_w12) (w1 := (w9.setCell ⟨gb284, 6, none⟩ (.slice Ao10 t285.length co10))) ?hg ?ho ?hn ?hr ?_; (case ho => rfl); (case hg => rfl); (case hn => rfl); (case hr => first | (go_simp; done) | (go_simp; rfl)); intro w12 hw; have n0_ : Aside0 (Kd.S k93 93 w12 w.heap.size (fun k_ => some k_ ≠ (.slice Ao10 t285.length co10 : Value).ownBlock ∧ k_ ≠ gb284) u3 x3_1) := ⟨(by rw [hw]; exact (by (with_reducible repeat (first | apply Kd.S_alloc | apply Kd.S_drewN | apply Kd.S_drew)); exact Kd.S_mono (Kd.S_far (p := ⟨gb284, 6, none⟩) (Kd.S_mono HO_3.out (fun k_ hk => (⟨hk, hk.1.2⟩ : _ ∧ k_ ≠ gb284))) (fun _ hk => hk.2) (.slice Ao10 t285.length co10)) (fun _ hk => ⟨hk.1.2, hk.1.1.2⟩)))⟩; have n1_ : Aside0 (Kd.R (Kd.int .u8) 5 w12 w.heap.size (fun _ => True) (.slice Ao10 t285.length co10) t285) := ⟨(by rw [hw]; exact (by (with_reducible repeat (first | apply Kd.R_alloc | apply Kd.R_drewN | apply Kd.R_drew)); exact Kd.R_mono (Kd.R_far (p := ⟨gb284, 6, none⟩) (Kd.R_types HO287.out BK284.out (by decide)) (fun _ hk => hk.2) (.slice Ao10 t285.length co10)) (fun _ hk => trivial)))⟩; have n2_ : Aside0 (w12.heap[gb284]? = some (.cells #[.int .u32 ((rd_T93 l0 x8_1).f0), .int .u16 ((rd_T93 l0 x8_1).f1), .int .u16 ((rd_T93 l0 x8_1).f2), .bool ((rd_T93 l0 x8_1).f3), .bool ((rd_T93 l0 x8_1).f4), .bool ((rd_T93 l0 x8_1).f5), .slice Ao10 t285.length co10] 93 (0, 0))) := ⟨(by rw [hw]; exact (by (with_reducible repeat (first | refine blk_drewN ?_ _ | refine blk_drew ?_ | refine blk_alloc ?_ _)); refine blk_put (cs := #[.int .u32 ((rd_T93 l0 x8_1).f0), .int .u16 ((rd_T93 l0 x8_1).f1), .int .u16 ((rd_T93 l0 x8_1).f2), .bool ((rd_T93 l0 x8_1).f3), .bool ((rd_T93 l0 x8_1).f4), .bool ((rd_T93 l0 x8_1).f5), .slice A283_6 ((rd_T93 l0 x8_1).f6).length c283_6]) ?_ 6 _ rfl; (with_reducible repeat (first | refine blk_drewN ?_ _ | refine blk_drew ?_ | refine blk_alloc ?_ _)); exact BK284.out))⟩; have n3_ : Aside0 (Below w.heap.size w w12) := ⟨(by rw [hw]; exact (by repeat (first | (with_reducible first | exact HB.out | apply below_alloc | apply pw_below_drewN | apply below_drew1 | refine below_set ?_ GE284.out) | exact HB.out)))⟩; clear hw; clear HO_3; clear HO287; clear BK284; clear HB; have HO_3 := n0_; have HO287 := n1_; have BK284 := n2_; have HB := n3_; clear n0_ n1_ n2_ n3_; have hcz13_0 : w12.cell? ⟨gb284, 0, none⟩ = some (.int .u32 ((rd_T93 l0 x8_1).f0)) := (blk_cell BK284.out 0).trans rfl; have hcz13_1 : w12.cell? ⟨gb284, 1, none⟩ = some (.int .u16 ((rd_T93 l0 x8_1).f1)) := (blk_cell BK284.out 1).trans rfl; have hcz13_2 : w12.cell? ⟨gb284, 2, none⟩ = some (.int .u16 ((rd_T93 l0 x8_1).f2)) := (blk_cell BK284.out 2).trans rfl; have hcz13_3 : w12.cell? ⟨gb284, 3, none⟩ = some (.bool ((rd_T93 l0 x8_1).f3)) := (blk_cell BK284.out 3).trans rfl; have hcz13_4 : w12.cell? ⟨gb284, 4, none⟩ = some (.bool ((rd_T93 l0 x8_1).f4)) := (blk_cell BK284.out 4).trans rfl; have hcz13_5 : w12.cell? ⟨gb284, 5, none⟩ = some (.bool ((rd_T93 l0 x8_1).f5)) := (blk_cell BK284.out 5).trans rfl; have hcz13_6 : w12.cell? ⟨gb284, 6, none⟩ = some (.slice Ao10 t285.length co10) := (blk_cell BK284.out 6).trans rfl; have hfz13_0 := blk_frozen BK284.out 0; have hfz13_1 := blk_frozen BK284.out 1; have hfz13_2 := blk_frozen BK284.out 2; have hfz13_3 := blk_frozen BK284.out 3; have hfz13_4 := blk_frozen BK284.out 4; have hfz13_5 := blk_frozen BK284.out 5; have hfz13_6 := blk_frozen BK284.out 6) | ((with_reducible refine gate_builtin (b := .append) (xs := #[.tmp 16, .tmp 18]) rfl ?_); at_builtin; refine Kd.S_append k93 (w0 := w) w.heap.size rfl (.tmp 16) (.tmp 18) 80 93 (.agg #[(.int .u32 0), (.int .u16 0), (.int .u16 0), (.bool false), (.bool false), (.bool false), (.slice none 0 0)]) 40 rfl Try.underlying80 info93 rfl (by decide) (by omega) u3 x3_1 (⟨(rd_T93 l0 x8_1).f0, (rd_T93 l0 x8_1).f1, (rd_T93 l0 x8_1).f2, (rd_T93 l0 x8_1).f3, (rd_T93 l0 x8_1).f4, (rd_T93 l0 x8_1).f5, t285⟩ : S93) [.int .u32 ((rd_T93 l0 x8_1).f0), .int .u16 ((rd_T93 l0 x8_1).f1), .int .u16 ((rd_T93 l0 x8_1).f2), .bool ((rd_T93 l0 x8_1).f3), .bool ((rd_T93 l0 x8_1).f4), .bool ((rd_T93 l0 x8_1).f5), .slice Ao10 t285.length co10] (fun k_ => k_ ≠ gb284) (fun k_ => some k_ = (.slice Ao10 t285.length co10 : Value).ownBlock) rfl rfl ?aP (fun k_ hk_ => ((Kd.R_mono (ok' := fun k_ => ((fun k_ => k_ ≠ gb284)) k_ ∧ some k_ ≠ (u3 : Value).ownBlock) (Kd.R_types (Kd.R_apart' (HO287.out) (Kd.S_typed HO_3.out) (by decide)) BK284.out (by decide)) (fun k_ hk => ⟨hk.2, hk.1.2⟩))).1 k_ hk_.symm) ?aF ?aO ?aB ?aS ?aL ?_; (case aP => exact k93_mkM _ _ _ (⟨(rd_T93 l0 x8_1).f0, (rd_T93 l0 x8_1).f1, (rd_T93 l0 x8_1).f2, (rd_T93 l0 x8_1).f3, (rd_T93 l0 x8_1).f4, (rd_T93 l0 x8_1).f5, t285⟩ : S93) (Kd.R_mono (Kd.R_tight rfl (Kd.R_mono (ok' := fun k_ => ((fun k_ => k_ ≠ gb284)) k_ ∧ some k_ ≠ (u3 : Value).ownBlock) (Kd.R_types (Kd.R_apart' (HO287.out) (Kd.S_typed HO_3.out) (by decide)) BK284.out (by decide)) (fun k_ hk => ⟨hk.2, hk.1.2⟩))) (fun _ h_ => h_))); (case aB => exact (by repeat (first | (with_reducible first | exact HB.out | apply below_alloc | apply pw_below_drewN | apply below_drew1 | refine below_set ?_ GE284.out) | exact HB.out))); (case aF => exact (fun k_ hk => Kd.freshB (g := gb284) (o := .cells #[.int .u32 ((rd_T93 l0 x8_1).f0), .int .u16 ((rd_T93 l0 x8_1).f1), .int .u16 ((rd_T93 l0 x8_1).f2), .bool ((rd_T93 l0 x8_1).f3), .bool ((rd_T93 l0 x8_1).f4), .bool ((rd_T93 l0 x8_1).f5), .slice Ao10 t285.length co10] 93 (0, 0)) (by (with_reducible repeat (first | refine blk_drewN ?_ _ | refine blk_drew ?_ | refine blk_alloc ?_ _)); exact BK284.out) k_ hk)); (case aO => exact (by (with_reducible repeat (first | apply Kd.S_alloc | apply Kd.S_drewN | apply Kd.S_drew)); exact Kd.S_mono HO_3.out (fun k_ hk => ⟨hk.2, fun e_ => hk.1 e_⟩))); (case aS => exact (below_size (by repeat (first | (with_reducible first | exact HB.out | apply below_alloc | apply pw_below_drewN | apply below_drew1 | refine below_set ?_ GE284.out) | exact HB.out)))); (case aL => have := LMc6.out; omega); intro v289 w14 ho hb hg hat; rw [← Ny288.out] at ho; have n0_ := Aside0.mk (blk_grown (g := gb284) (o := .cells #[.int .u32 ((rd_T93 l0 x8_1).f0), .int .u16 ((rd_T93 l0 x8_1).f1), .int .u16 ((rd_T93 l0 x8_1).f2), .bool ((rd_T93 l0 x8_1).f3), .bool ((rd_T93 l0 x8_1).f4), .bool ((rd_T93 l0 x8_1).f5), .slice Ao10 t285.length co10] 93 (0, 0)) (by (with_reducible repeat (first | refine blk_drewN ?_ _ | refine blk_drew ?_ | refine blk_alloc ?_ _)); exact BK284.out) hg (Kd.S_away HO_3.out (fun _ hk => hk.2))); have n1_ := Aside0.mk (hb); have n2_ := Aside0.mk (ho); clear BK284; clear HB; clear HO_3; clear HO287; have BK284 := n0_; have HB := n1_; have HO290 := n2_; clear n0_ n1_ n2_; clear ho hb hg hat))
              go_roundg k1
              case measure => have := HK1.out; omega
              case rel => exact ⟨(y288), (wrap64 (x8_1 + 1)), (by first | rfl | (simp; done) | (simp [*]; done)), H', ⟨by have := HK1.out; omega⟩, ⟨by (with_reducible repeat (first | apply Kd.S_alloc | apply Kd.S_drewN | apply Kd.S_drew)); exact Kd.S_mono HO290.out (fun _ hk => trivial)⟩, ⟨by repeat (first | (with_reducible first | exact HB.out | apply below_alloc | apply pw_below_drewN | apply below_drew1 | refine below_set ?_ GE284.out) | exact HB.out)⟩⟩
            · rw [if_neg c6] at H
              exact absurd H (by simp)
          · rw [if_neg c4] at H
            exact absurd H (by simp)
        · rw [if_neg c3] at H
          exact absurd H (by simp)
      · rw [if_neg c2] at H
        have c2b0 : decide (x8_1 < (l0.length : Int)) = false := decide_eq_false c2
        clear c2
        obtain rfl := Option.some.inj H
        go_wp2
        go_ret
        exact ⟨_, by first | rfl | (simp [errW_none, errW_some] <;> rfl) | (simp [*, errW_none, errW_some] <;> rfl), by (with_reducible repeat (first | apply Kd.S_alloc | apply Kd.S_drewN | apply Kd.S_drew)); exact HO_3.out, by repeat (first | (with_reducible first | exact HB.out | apply below_alloc | apply pw_below_drewN | apply below_drew1) | exact HB.out)⟩

-- NOT PRINTED: function 52 (frag_Groups)

end Go.Proofs.Ytnlhlffciigcnaa.QFrag.Big
