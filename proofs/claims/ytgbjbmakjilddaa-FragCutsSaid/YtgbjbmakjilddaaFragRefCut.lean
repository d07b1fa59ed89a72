import Derived.Test.YtgbjbmakjilddaaFragWalk
namespace Go.Proofs.Ytgbjbmakjilddaa.QFrag
open Go.RowKit Go.Proofs.YtgbjbmakjilddaaW.PrintWords Go.Proofs.YtgbjbmakjilddaaW.PrintLast Go.Proofs.YtgbjbmakjilddaaW.PrintMore Go.ChangeShapes Go.WideShapes Go.ChangeAt Go.Shelf
open Base (hid slice_of_row ret_bool cell_new1 cell_old1 froz_new1 froz_old1)
open Go.Joins (cell_of_block unfrozen_of_block)
attribute [local go_sem] Oper.semAt_some
set_option linter.unusedVariables false
theorem piece_eq (st tsn seq : Int) (un : Bool) (l : List Int) (z N j p : Nat) (hz1 : 1 ≤ z) (hN : N = parts l.length z) (hj : j < N) (hp : p = j * z) (E : Nat) (hE : E = min (p + z) l.length) (be : Bool) (hbe : be = decide (l.length ≤ p + z)) (sq : Int) (hsq : sq = if un then 0 else seq) (t0 : Int) (ht0 : t0 = (tsn + (j : Int) % 4294967296) % 4294967296) :
    (⟨t0, IntKind.u16.wrap st, sq, ((p : Int) == 0), be, un, (l.take E).drop p⟩ : S93) = FL.onePiece st un l tsn seq z N j := by
  have hlast : (j + 1 = N) ↔ l.length ≤ p + z := by
    have h1 : j + 1 < N ↔ (j + 1) * z < l.length := by rw [hN]; exact parts_lt hz1
    rw [Nat.succ_mul, ← hp] at h1
    exact FL.last_iff h1 hj
  unfold FL.onePiece piece
  simp only [S93.mk.injEq, true_and]
  refine ⟨ht0, hsq, ?_, ?_, ?_⟩
  · rw [Bool.eq_iff_iff, beq_iff_eq, beq_iff_eq]
    constructor
    · intro h
      rw [hp] at h
      rcases Nat.mul_eq_zero.1 (Int.natCast_eq_zero.1 h) with h1 | h1
      · exact h1
      · exact absurd hz1 (by rw [h1]; decide)
    · intro h
      rw [hp, h, Nat.zero_mul]
      rfl
  · rw [hbe, Bool.eq_iff_iff, beq_iff_eq, decide_eq_true_iff]
    exact hlast.symm
  · rw [← hp, List.drop_take]
    rcases Nat.le_total (p + z) l.length with h | h
    · rw [hE, Nat.min_eq_left h, Nat.add_sub_cancel_left]
    · rw [hE, Nat.min_eq_right h, List.take_of_length_le (by rw [List.length_drop]; exact Nat.le_refl _), List.take_of_length_le (by rw [List.length_drop]; exact Nat.sub_le_iff_le_add'.2 h)]
set_option maxRecDepth 100000 in
set_option maxHeartbeats 8000000 in
theorem refcut_calls (st : Int) (un : Bool) (A : Option Addr) (c : Nat) (l : List Int) (tsn seq : Int) (z : Nat) (w : World) (hr : (Kd.int .u8).C w A l.length l) (hc : l.length ≤ c) (hz1 : 1 ≤ z) (hz2 : z ≤ 64) (hl : l.length ≤ 1000) :
    Calls Try.prog 45 #[.agg #[.int .i64 st, .bool un, .slice A l.length c], .int .u32 tsn, .int .u16 seq, .int .i64 (z : Int)] w fun e w' => ∃ v, e = .returned v ∧ Kd.R k93 93 w' w.heap.size (fun _ => True) v (FL.cutL st un l tsn seq z) ∧ Below w.heap.size w w' := by
  have hu77 := Try.underlying77
  have hu93 := Try.underlying93
  have HR := hid hr
  obtain ⟨i0, hi0, hz⟩ := Option.map_eq_some_iff.1 info5
  simp only [Prod.mk.injEq] at hz
  obtain ⟨hz0, hz1', hz2'⟩ := hz
  have I5 := hid (And.intro hi0 (And.intro hz0 (And.intro hz1' hz2')))
  clear hi0 hz0 hz1' hz2'
  clear hr
  go_enter Try.func45, Try.ntmps45
  go_wp2
  obtain ⟨w0, hw0⟩ : ∃ w0 : World, w0 = w.alloc (.cells #[.int .i64 st, .bool un, .slice A l.length c] 77) := ⟨_, rfl⟩
  rw [← hw0]
  have K4 : Hid (w0.heap[w.heap.size]? = some (.cells #[.int .i64 st, .bool un, .slice A l.length c] 77 (0, 0))) := hid (by rw [hw0]; exact blk_new _ _)
  have HB : Hid (Below w.heap.size w w0) := hid (by rw [hw0]; exact (Below.refl _ w).alloc (Nat.le_refl _) _)
  clear hw0
  go_loopw [9, 10] (fun v9 v10 wx => ∃ j : Nat, j ≤ parts l.length z ∧ v10 = .int .i64 ((j * z : Nat) : Int) ∧ Hid (wx.heap[w.heap.size]? = some (.cells #[.int .i64 st, .bool un, .slice A l.length c] 77 (0, 0))) ∧ Hid (Kd.R k93 93 wx (w.heap.size + 1) (fun _ => True) v9 ((FL.cutL st un l tsn seq z).take j)) ∧ Hid (Below w.heap.size w wx)) (fun _ v10 _ => l.length + 64 - (intOf v10).toNat)
  case atStart => exact ⟨0, Nat.zero_le _, by rw [Nat.zero_mul]; rfl, K4, hid (Kd.R_nil _ _ _ _ _), HB⟩
  case round =>
    clear K4 HB
    obtain ⟨j, hj, rfl, K4, HO, HB⟩ := hrel
    have K0 := K4
    have hsz4 : w.heap.size < wr.heap.size := blk_lt K4.out
    have n40 : wr.cell? ⟨w.heap.size, 0, none⟩ = some (.int .i64 st) := (cell_of_block K4.out 0).trans rfl
    have n41 : wr.cell? ⟨w.heap.size, 1, none⟩ = some (.bool un) := (cell_of_block K4.out 1).trans rfl
    have n42 : wr.cell? ⟨w.heap.size, 2, none⟩ = some (.slice A l.length c) := (cell_of_block K4.out 2).trans rfl
    by_cases hlt : j < parts l.length z
    · have hjl : j * z < l.length := (parts_lt hz1).1 hlt
      have hjj : j ≤ 1000 := by
        have : j * 1 ≤ j * z := Nat.mul_le_mul_left _ hz1
        omega
      have hdv : ((j * z : Nat) : Int) / (z : Int) = (j : Int) := by rw [← Int.natCast_ediv, Nat.mul_div_cancel _ hz1]
      have HJZ := hid (show (j + 1) * z = j * z + z from Nat.succ_mul j z)
      obtain ⟨p, hp⟩ : ∃ p : Nat, p = j * z := ⟨_, rfl⟩
      rw [← hp] at hjl hdv HJZ ⊢
      have HP := hid hp
      clear hp
      have hz0 : ¬ (z : Int) = 0 := by omega
      have hz0n : ¬ z = 0 := by omega
      obtain ⟨t0, ht0⟩ : ∃ t0 : Int, t0 = (tsn + (j : Int) % 4294967296) % 4294967296 := ⟨_, rfl⟩
      have hw0 : IntKind.i64.wrap (j : Int) = (j : Int) := by simp [IntKind.wrap, IntKind.bits, IntKind.signed]; omega
      have hw1 : IntKind.u32.wrap (j : Int) = (j : Int) := by simp [IntKind.wrap, IntKind.bits, IntKind.signed]; omega
      have hw2 : IntKind.u32.wrap (tsn + (j : Int)) = t0 := by rw [ht0]; simp [IntKind.wrap, IntKind.bits, IntKind.signed]
      have HT0 := hid ht0
      clear ht0
      by_cases hend : l.length < p + z
      · have hendI : (l.length : Int) < (p : Int) + (z : Int) := by omega
        cases un
        · skip
          go_upto_region 8 with (fail)
          go_region_held3 (fun w' => w'.cell? ⟨w.heap.size, 0, none⟩ = some (.int .i64 st) ∧ w'.cell? ⟨w.heap.size, 1, none⟩ = some (.bool false) ∧ w'.cell? ⟨w.heap.size, 2, none⟩ = some (.slice A l.length c))
            (first | go_keep) (fail)
          obtain ⟨wp, hwp⟩ : ∃ wp : World, wp = (wr.alloc (.cells #[.int .u32 t0, .int .u16 (IntKind.u16.wrap st), .int .u16 0, .bool ((p : Int) == 0), .bool (true), .bool false, .slice none 0 0] 93)).drew := ⟨_, rfl⟩
          obtain ⟨b6, hb6⟩ : ∃ b6 : Nat, b6 = wr.heap.size := ⟨_, rfl⟩
          rw [← hwp, ← hb6]
          have M : wp.heap[b6]? = some (.cells #[.int .u32 t0, .int .u16 (IntKind.u16.wrap st), .int .u16 0, .bool ((p : Int) == 0), .bool (true), .bool false, .slice none 0 0] 93 (0, 0)) := by rw [hwp, hb6]; exact blk_drew (blk_new _ _)
          have hbp : Below wr.heap.size wr wp := by rw [hwp]; exact below_drew1 ((Below.refl _ _).alloc (Nat.le_refl _) _)
          have K4 := hid (blk_below K4.out hbp)
          have n40 : wp.cell? ⟨w.heap.size, 0, none⟩ = some (.int .i64 st) := (cell_of_block K4.out 0).trans rfl
          have n41 : wp.cell? ⟨w.heap.size, 1, none⟩ = some (.bool false) := (cell_of_block K4.out 1).trans rfl
          have n42 : wp.cell? ⟨w.heap.size, 2, none⟩ = some (.slice A l.length c) := (cell_of_block K4.out 2).trans rfl
          have m2 : wp.cell? ⟨b6, 2, none⟩ = some (.int .u16 0) := (cell_of_block M 2).trans rfl
          have f2 : wp.frozen? ⟨b6, 2, none⟩ = false := unfrozen_of_block M 2
          have MM := hid M
          have HBP := hid hbp
          have HB6 := hid hb6
          clear hwp hbp M hb6 hdv hw0 hw1 hw2
          go_upto_region 11 with (fail)
          obtain ⟨wq, hwq⟩ : ∃ wq : World, wq = wp.setCell ⟨b6, 2, none⟩ (.int .u16 seq) := ⟨_, rfl⟩
          rw [← hwq]
          have hbq : Below wr.heap.size wr wq := by rw [hwq]; exact HBP.out.setCell (p := ⟨b6, 2, none⟩) (Nat.le_of_eq HB6.out.symm) _
          have MQ : wq.heap[b6]? = some (.cells #[.int .u32 t0, .int .u16 (IntKind.u16.wrap st), .int .u16 seq, .bool ((p : Int) == 0), .bool (true), .bool false, .slice none 0 0] 93 (0, 0)) := by rw [hwq]; exact blk_put (cs := #[.int .u32 t0, .int .u16 (IntKind.u16.wrap st), .int .u16 0, .bool ((p : Int) == 0), .bool (true), .bool false, .slice none 0 0]) MM.out 2 _ rfl
          have KQ : wq.heap[w.heap.size]? = some (.cells #[.int .i64 st, .bool false, .slice A l.length c] 77 (0, 0)) := blk_below K0.out hbq
          have n42 : wq.cell? ⟨w.heap.size, 2, none⟩ = some (.slice A l.length c) := (cell_of_block KQ 2).trans rfl
          have hsq := blk_lt MQ
          have hsw := blk_lt KQ
          have MQH := hid MQ
          have HBQ := hid hbq
          clear hwq MM HBP m2 f2 MQ hbq n40 n41
          obtain ⟨A', hrun, hrd, hcap⟩ := print_mid_int (k := .u8) (P := Try.prog) 75 5 Try.underlying75 I5.out.1 I5.out.2.2.1 A c l (p : Int) (l.length) (by omega) (by omega) (by omega) hc
          have hCy0 : (Kd.int .u8).C wq A' ((l.take (l.length : Int).toNat).drop (p : Int).toNat).length ((l.take (l.length : Int).toNat).drop (p : Int).toNat) := Kd.C_of_reads (d := (0 : Int)) (hrd wq (Kd.reads_of_C (enc := Value.int .u8) (d := (0 : Int)) (h1 := fun _ => rfl) (Kd.C_below HR.out (HB.out.trans (HBQ.out.mono HB.out.size)))))
          have hCy := hid hCy0
          clear hCy0
          obtain ⟨ys, hys⟩ : ∃ ys : List Int, ys = (l.take (l.length : Int).toNat).drop (p : Int).toNat := ⟨_, rfl⟩
          rw [← hys] at hrun hCy
          have hyl : ys.length ≤ 1000 := by rw [hys, List.length_drop, List.length_take]; omega
          have HYS := hid hys
          clear hys hrd hcap
          go_wp2_with (at_builtin; go_loud (refine wpList_append_src _ rfl _ _ 75 rfl wq.heap.size 5 i0 (.int .u8 0) 1 Try.underlying75 I5.out.1 I5.out.2.1 I5.out.2.2.1 I5.out.2.2.2 rfl _ 0 [] rfl (World.ownsRow_made _ #[] 0 (Nat.le_refl _) (by decide) rfl) A' (c - (p : Int).toNat) .u8 ys rfl (Kd.C_alloc hCy.out _) (by simp only [maxLen]; omega) (by omega) (by simp) ?_))
          intro v' w' hown' hg'
          have hR6 : (Kd.int .u8).R 5 w' wq.heap.size (fun _ => True) v' ys := by
            apply R_of
            exact hown'
          obtain ⟨A6, c6, rfl, hc6, _⟩ := Kd.R_reads hR6
          have hbw : Below wq.heap.size wq w' := ((Below.refl _ wq).alloc (Nat.le_refl _) _).grown hg' (by simp) (fun k hk => by cases hk; exact Nat.le_refl _)
          have M6 := hid (blk_below MQH.out hbw)
          have m : ∀ j, w'.cell? ⟨b6, j, none⟩ = #[Value.int .u32 t0, .int .u16 (IntKind.u16.wrap st), .int .u16 seq, .bool ((p : Int) == 0), .bool (true), .bool false, .slice none 0 0][j]? := fun j => cell_of_block M6.out j
          have m0 : w'.cell? ⟨b6, 0, none⟩ = some (.int .u32 t0) := (m 0).trans rfl
          have m1 : w'.cell? ⟨b6, 1, none⟩ = some (.int .u16 (IntKind.u16.wrap st)) := (m 1).trans rfl
          have m2 : w'.cell? ⟨b6, 2, none⟩ = some (.int .u16 seq) := (m 2).trans rfl
          have m3 : w'.cell? ⟨b6, 3, none⟩ = some (.bool ((p : Int) == 0)) := (m 3).trans rfl
          have m4 : w'.cell? ⟨b6, 4, none⟩ = some (.bool (true)) := (m 4).trans rfl
          have m5 : w'.cell? ⟨b6, 5, none⟩ = some (.bool false) := (m 5).trans rfl
          have m6 : w'.cell? ⟨b6, 6, none⟩ = some (.slice none 0 0) := (m 6).trans rfl
          have f6 : w'.frozen? ⟨b6, 6, none⟩ = false := unfrozen_of_block M6.out 6
          have hsz' := hbw.size
          have hbW : Below wr.heap.size wr (w'.setCell ⟨b6, 6, none⟩ (.slice A6 ys.length c6)) := (HBQ.out.trans (hbw.mono HBQ.out.size)).setCell (p := ⟨b6, 6, none⟩) (Nat.le_of_eq HB6.out.symm) _
          have HBW := hid hbW
          have HR6 := hid (R_far_at hR6 (p := ⟨b6, 6, none⟩) hsq (.slice A6 ys.length c6))
          have hlen12 : ((FL.cutL st false l tsn seq z).take j).length ≤ 1000 := by rw [List.length_take]; omega
          clear hrun m hbw hbW hR6 hg' hown'
          go_wp2_with (at_builtin; go_loud (refine Kd.R_append k93 (w0 := w'.setCell ⟨b6, 6, none⟩ (.slice A6 ys.length c6)) (W := w'.setCell ⟨b6, 6, none⟩ (.slice A6 ys.length c6)) (w.heap.size + 1) rfl _ _ 80 93 (.agg #[(.int .u32 0), (.int .u16 0), (.int .u16 0), (.bool false), (.bool false), (.bool false), (.slice none 0 0)]) 40 rfl Try.underlying80 info93 rfl (by decide) (by decide) _ ((FL.cutL st false l tsn seq z).take j) ⟨t0, IntKind.u16.wrap st, seq, ((p : Int) == 0), true, false, ys⟩ [.int .u32 t0, .int .u16 (IntKind.u16.wrap st), .int .u16 seq, .bool ((p : Int) == 0), .bool (true), .bool false, .slice A6 ys.length c6] (fun _ => True) (fun k => some k ≠ u9.ownBlock) rfl ?hx ?hp ?hokp (fun _ _ => trivial) (Kd.R_below HO.out HBW.out) (Below.refl _ _) ?hbase ?hl ?_))
          case hx =>
            show Value.slice (some ⟨w'.heap.size, 0, none⟩) 1 1 = Value.slice (some ⟨(w'.setCell _ _).heap.size, 0, none⟩) 1 1
            simp [World.setCell]
          case hp =>
            refine k93_mkM _ _ _ _ (Kd.R_lower (Kd.R_mono (Kd.R_bound HR6.out) (fun k hk e => ?_)) (by omega))
            have h1 := Kd.R_lt HO.out k e.symm
            have h2 := hk.2.1
            have h3 := HBQ.out.size
            omega
          case hokp => exact fun k hk => ⟨trivial, hk⟩
          case hbase => simp [World.setCell]; omega
          case hl => omega
          intro v1 w1 hR1 hB1 hg1 hat1
          have hys' : ys = (l.take (l.length)).drop p := by rw [HYS.out]; congr 1
          have hpe := piece_eq st tsn seq false l z _ j p hz1 rfl hlt HP.out (l.length) (by omega) (true) ((decide_eq_true (by omega)).symm) seq rfl t0 HT0.out
          rw [← hys'] at hpe
          rw [hpe, FL.cutL_snoc _ _ _ _ _ _ _ hlt] at hR1
          have hfin := hid (And.intro hR1 (And.intro ((hB1.block w.heap.size (by omega)).trans (blk_below K0.out HBW.out)) (HB.out.trans ((HBW.out.mono HB.out.size).trans (hB1.mono (by omega))))))
          clear hR1 hB1 hg1 hat1 hpe hys'
          go_wp2
          go_roundw
          case rel => exact ⟨j + 1, by omega, by rw [HJZ.out, Int.natCast_add], hid hfin.out.2.1, hid hfin.out.1, hid hfin.out.2.2⟩
          case measure => simp [intOf]; omega
        · skip
          go_upto_region 8 with (fail)
          go_region_held3 (fun w' => w'.cell? ⟨w.heap.size, 0, none⟩ = some (.int .i64 st) ∧ w'.cell? ⟨w.heap.size, 1, none⟩ = some (.bool true) ∧ w'.cell? ⟨w.heap.size, 2, none⟩ = some (.slice A l.length c))
            (first | go_keep) (fail)
          obtain ⟨wp, hwp⟩ : ∃ wp : World, wp = (wr.alloc (.cells #[.int .u32 t0, .int .u16 (IntKind.u16.wrap st), .int .u16 0, .bool ((p : Int) == 0), .bool (true), .bool true, .slice none 0 0] 93)).drew := ⟨_, rfl⟩
          obtain ⟨b6, hb6⟩ : ∃ b6 : Nat, b6 = wr.heap.size := ⟨_, rfl⟩
          rw [← hwp, ← hb6]
          have M : wp.heap[b6]? = some (.cells #[.int .u32 t0, .int .u16 (IntKind.u16.wrap st), .int .u16 0, .bool ((p : Int) == 0), .bool (true), .bool true, .slice none 0 0] 93 (0, 0)) := by rw [hwp, hb6]; exact blk_drew (blk_new _ _)
          have hbp : Below wr.heap.size wr wp := by rw [hwp]; exact below_drew1 ((Below.refl _ _).alloc (Nat.le_refl _) _)
          have K4 := hid (blk_below K4.out hbp)
          have n40 : wp.cell? ⟨w.heap.size, 0, none⟩ = some (.int .i64 st) := (cell_of_block K4.out 0).trans rfl
          have n41 : wp.cell? ⟨w.heap.size, 1, none⟩ = some (.bool true) := (cell_of_block K4.out 1).trans rfl
          have n42 : wp.cell? ⟨w.heap.size, 2, none⟩ = some (.slice A l.length c) := (cell_of_block K4.out 2).trans rfl
          have m2 : wp.cell? ⟨b6, 2, none⟩ = some (.int .u16 0) := (cell_of_block M 2).trans rfl
          have f2 : wp.frozen? ⟨b6, 2, none⟩ = false := unfrozen_of_block M 2
          have MM := hid M
          have HBP := hid hbp
          have HB6 := hid hb6
          clear hwp hbp M hb6 hdv hw0 hw1 hw2
          go_upto_region 11 with (fail)
          obtain ⟨wq, hwq⟩ : ∃ wq : World, wq = wp := ⟨_, rfl⟩
          rw [← hwq]
          have hbq : Below wr.heap.size wr wq := by rw [hwq]; exact HBP.out
          have MQ : wq.heap[b6]? = some (.cells #[.int .u32 t0, .int .u16 (IntKind.u16.wrap st), .int .u16 0, .bool ((p : Int) == 0), .bool (true), .bool true, .slice none 0 0] 93 (0, 0)) := by rw [hwq]; exact MM.out
          have KQ : wq.heap[w.heap.size]? = some (.cells #[.int .i64 st, .bool true, .slice A l.length c] 77 (0, 0)) := blk_below K0.out hbq
          have n42 : wq.cell? ⟨w.heap.size, 2, none⟩ = some (.slice A l.length c) := (cell_of_block KQ 2).trans rfl
          have hsq := blk_lt MQ
          have hsw := blk_lt KQ
          have MQH := hid MQ
          have HBQ := hid hbq
          clear hwq MM HBP m2 f2 MQ hbq n40 n41
          obtain ⟨A', hrun, hrd, hcap⟩ := print_mid_int (k := .u8) (P := Try.prog) 75 5 Try.underlying75 I5.out.1 I5.out.2.2.1 A c l (p : Int) (l.length) (by omega) (by omega) (by omega) hc
          have hCy0 : (Kd.int .u8).C wq A' ((l.take (l.length : Int).toNat).drop (p : Int).toNat).length ((l.take (l.length : Int).toNat).drop (p : Int).toNat) := Kd.C_of_reads (d := (0 : Int)) (hrd wq (Kd.reads_of_C (enc := Value.int .u8) (d := (0 : Int)) (h1 := fun _ => rfl) (Kd.C_below HR.out (HB.out.trans (HBQ.out.mono HB.out.size)))))
          have hCy := hid hCy0
          clear hCy0
          obtain ⟨ys, hys⟩ : ∃ ys : List Int, ys = (l.take (l.length : Int).toNat).drop (p : Int).toNat := ⟨_, rfl⟩
          rw [← hys] at hrun hCy
          have hyl : ys.length ≤ 1000 := by rw [hys, List.length_drop, List.length_take]; omega
          have HYS := hid hys
          clear hys hrd hcap
          go_wp2_with (at_builtin; go_loud (refine wpList_append_src _ rfl _ _ 75 rfl wq.heap.size 5 i0 (.int .u8 0) 1 Try.underlying75 I5.out.1 I5.out.2.1 I5.out.2.2.1 I5.out.2.2.2 rfl _ 0 [] rfl (World.ownsRow_made _ #[] 0 (Nat.le_refl _) (by decide) rfl) A' (c - (p : Int).toNat) .u8 ys rfl (Kd.C_alloc hCy.out _) (by simp only [maxLen]; omega) (by omega) (by simp) ?_))
          intro v' w' hown' hg'
          have hR6 : (Kd.int .u8).R 5 w' wq.heap.size (fun _ => True) v' ys := by
            apply R_of
            exact hown'
          obtain ⟨A6, c6, rfl, hc6, _⟩ := Kd.R_reads hR6
          have hbw : Below wq.heap.size wq w' := ((Below.refl _ wq).alloc (Nat.le_refl _) _).grown hg' (by simp) (fun k hk => by cases hk; exact Nat.le_refl _)
          have M6 := hid (blk_below MQH.out hbw)
          have m : ∀ j, w'.cell? ⟨b6, j, none⟩ = #[Value.int .u32 t0, .int .u16 (IntKind.u16.wrap st), .int .u16 0, .bool ((p : Int) == 0), .bool (true), .bool true, .slice none 0 0][j]? := fun j => cell_of_block M6.out j
          have m0 : w'.cell? ⟨b6, 0, none⟩ = some (.int .u32 t0) := (m 0).trans rfl
          have m1 : w'.cell? ⟨b6, 1, none⟩ = some (.int .u16 (IntKind.u16.wrap st)) := (m 1).trans rfl
          have m2 : w'.cell? ⟨b6, 2, none⟩ = some (.int .u16 0) := (m 2).trans rfl
          have m3 : w'.cell? ⟨b6, 3, none⟩ = some (.bool ((p : Int) == 0)) := (m 3).trans rfl
          have m4 : w'.cell? ⟨b6, 4, none⟩ = some (.bool (true)) := (m 4).trans rfl
          have m5 : w'.cell? ⟨b6, 5, none⟩ = some (.bool true) := (m 5).trans rfl
          have m6 : w'.cell? ⟨b6, 6, none⟩ = some (.slice none 0 0) := (m 6).trans rfl
          have f6 : w'.frozen? ⟨b6, 6, none⟩ = false := unfrozen_of_block M6.out 6
          have hsz' := hbw.size
          have hbW : Below wr.heap.size wr (w'.setCell ⟨b6, 6, none⟩ (.slice A6 ys.length c6)) := (HBQ.out.trans (hbw.mono HBQ.out.size)).setCell (p := ⟨b6, 6, none⟩) (Nat.le_of_eq HB6.out.symm) _
          have HBW := hid hbW
          have HR6 := hid (R_far_at hR6 (p := ⟨b6, 6, none⟩) hsq (.slice A6 ys.length c6))
          have hlen12 : ((FL.cutL st true l tsn seq z).take j).length ≤ 1000 := by rw [List.length_take]; omega
          clear hrun m hbw hbW hR6 hg' hown'
          go_wp2_with (at_builtin; go_loud (refine Kd.R_append k93 (w0 := w'.setCell ⟨b6, 6, none⟩ (.slice A6 ys.length c6)) (W := w'.setCell ⟨b6, 6, none⟩ (.slice A6 ys.length c6)) (w.heap.size + 1) rfl _ _ 80 93 (.agg #[(.int .u32 0), (.int .u16 0), (.int .u16 0), (.bool false), (.bool false), (.bool false), (.slice none 0 0)]) 40 rfl Try.underlying80 info93 rfl (by decide) (by decide) _ ((FL.cutL st true l tsn seq z).take j) ⟨t0, IntKind.u16.wrap st, 0, ((p : Int) == 0), true, true, ys⟩ [.int .u32 t0, .int .u16 (IntKind.u16.wrap st), .int .u16 0, .bool ((p : Int) == 0), .bool (true), .bool true, .slice A6 ys.length c6] (fun _ => True) (fun k => some k ≠ u9.ownBlock) rfl ?hx ?hp ?hokp (fun _ _ => trivial) (Kd.R_below HO.out HBW.out) (Below.refl _ _) ?hbase ?hl ?_))
          case hx =>
            show Value.slice (some ⟨w'.heap.size, 0, none⟩) 1 1 = Value.slice (some ⟨(w'.setCell _ _).heap.size, 0, none⟩) 1 1
            simp [World.setCell]
          case hp =>
            refine k93_mkM _ _ _ _ (Kd.R_lower (Kd.R_mono (Kd.R_bound HR6.out) (fun k hk e => ?_)) (by omega))
            have h1 := Kd.R_lt HO.out k e.symm
            have h2 := hk.2.1
            have h3 := HBQ.out.size
            omega
          case hokp => exact fun k hk => ⟨trivial, hk⟩
          case hbase => simp [World.setCell]; omega
          case hl => omega
          intro v1 w1 hR1 hB1 hg1 hat1
          have hys' : ys = (l.take (l.length)).drop p := by rw [HYS.out]; congr 1
          have hpe := piece_eq st tsn seq true l z _ j p hz1 rfl hlt HP.out (l.length) (by omega) (true) ((decide_eq_true (by omega)).symm) 0 rfl t0 HT0.out
          rw [← hys'] at hpe
          rw [hpe, FL.cutL_snoc _ _ _ _ _ _ _ hlt] at hR1
          have hfin := hid (And.intro hR1 (And.intro ((hB1.block w.heap.size (by omega)).trans (blk_below K0.out HBW.out)) (HB.out.trans ((HBW.out.mono HB.out.size).trans (hB1.mono (by omega))))))
          clear hR1 hB1 hg1 hat1 hpe hys'
          go_wp2
          go_roundw
          case rel => exact ⟨j + 1, by omega, by rw [HJZ.out, Int.natCast_add], hid hfin.out.2.1, hid hfin.out.1, hid hfin.out.2.2⟩
          case measure => simp [intOf]; omega
      · have hendI : ¬ (l.length : Int) < (p : Int) + (z : Int) := by omega
        have hbe : (((p : Int) + (z : Int)) == (l.length : Int)) = decide (l.length ≤ p + z) := by
          rw [Bool.eq_iff_iff, beq_iff_eq, decide_eq_true_iff]
          omega
        have HLST := hid hbe
        clear hbe
        cases un
        · skip
          go_upto_region 8 with (fail)
          go_region_held3 (fun w' => w'.cell? ⟨w.heap.size, 0, none⟩ = some (.int .i64 st) ∧ w'.cell? ⟨w.heap.size, 1, none⟩ = some (.bool false) ∧ w'.cell? ⟨w.heap.size, 2, none⟩ = some (.slice A l.length c))
            (first | go_keep) (fail)
          obtain ⟨wp, hwp⟩ : ∃ wp : World, wp = (wr.alloc (.cells #[.int .u32 t0, .int .u16 (IntKind.u16.wrap st), .int .u16 0, .bool ((p : Int) == 0), .bool (((p : Int) + (z : Int)) == (l.length : Int)), .bool false, .slice none 0 0] 93)).drew := ⟨_, rfl⟩
          obtain ⟨b6, hb6⟩ : ∃ b6 : Nat, b6 = wr.heap.size := ⟨_, rfl⟩
          rw [← hwp, ← hb6]
          have M : wp.heap[b6]? = some (.cells #[.int .u32 t0, .int .u16 (IntKind.u16.wrap st), .int .u16 0, .bool ((p : Int) == 0), .bool (((p : Int) + (z : Int)) == (l.length : Int)), .bool false, .slice none 0 0] 93 (0, 0)) := by rw [hwp, hb6]; exact blk_drew (blk_new _ _)
          have hbp : Below wr.heap.size wr wp := by rw [hwp]; exact below_drew1 ((Below.refl _ _).alloc (Nat.le_refl _) _)
          have K4 := hid (blk_below K4.out hbp)
          have n40 : wp.cell? ⟨w.heap.size, 0, none⟩ = some (.int .i64 st) := (cell_of_block K4.out 0).trans rfl
          have n41 : wp.cell? ⟨w.heap.size, 1, none⟩ = some (.bool false) := (cell_of_block K4.out 1).trans rfl
          have n42 : wp.cell? ⟨w.heap.size, 2, none⟩ = some (.slice A l.length c) := (cell_of_block K4.out 2).trans rfl
          have m2 : wp.cell? ⟨b6, 2, none⟩ = some (.int .u16 0) := (cell_of_block M 2).trans rfl
          have f2 : wp.frozen? ⟨b6, 2, none⟩ = false := unfrozen_of_block M 2
          have MM := hid M
          have HBP := hid hbp
          have HB6 := hid hb6
          clear hwp hbp M hb6 hdv hw0 hw1 hw2
          go_upto_region 11 with (fail)
          obtain ⟨wq, hwq⟩ : ∃ wq : World, wq = wp.setCell ⟨b6, 2, none⟩ (.int .u16 seq) := ⟨_, rfl⟩
          rw [← hwq]
          have hbq : Below wr.heap.size wr wq := by rw [hwq]; exact HBP.out.setCell (p := ⟨b6, 2, none⟩) (Nat.le_of_eq HB6.out.symm) _
          have MQ : wq.heap[b6]? = some (.cells #[.int .u32 t0, .int .u16 (IntKind.u16.wrap st), .int .u16 seq, .bool ((p : Int) == 0), .bool (((p : Int) + (z : Int)) == (l.length : Int)), .bool false, .slice none 0 0] 93 (0, 0)) := by rw [hwq]; exact blk_put (cs := #[.int .u32 t0, .int .u16 (IntKind.u16.wrap st), .int .u16 0, .bool ((p : Int) == 0), .bool (((p : Int) + (z : Int)) == (l.length : Int)), .bool false, .slice none 0 0]) MM.out 2 _ rfl
          have KQ : wq.heap[w.heap.size]? = some (.cells #[.int .i64 st, .bool false, .slice A l.length c] 77 (0, 0)) := blk_below K0.out hbq
          have n42 : wq.cell? ⟨w.heap.size, 2, none⟩ = some (.slice A l.length c) := (cell_of_block KQ 2).trans rfl
          have hsq := blk_lt MQ
          have hsw := blk_lt KQ
          have MQH := hid MQ
          have HBQ := hid hbq
          clear hwq MM HBP m2 f2 MQ hbq n40 n41
          obtain ⟨A', hrun, hrd, hcap⟩ := print_mid_int (k := .u8) (P := Try.prog) 75 5 Try.underlying75 I5.out.1 I5.out.2.2.1 A c l (p : Int) ((p : Int) + (z : Int)) (by omega) (by omega) (by omega) hc
          have hCy0 : (Kd.int .u8).C wq A' ((l.take ((p : Int) + (z : Int) : Int).toNat).drop (p : Int).toNat).length ((l.take ((p : Int) + (z : Int) : Int).toNat).drop (p : Int).toNat) := Kd.C_of_reads (d := (0 : Int)) (hrd wq (Kd.reads_of_C (enc := Value.int .u8) (d := (0 : Int)) (h1 := fun _ => rfl) (Kd.C_below HR.out (HB.out.trans (HBQ.out.mono HB.out.size)))))
          have hCy := hid hCy0
          clear hCy0
          obtain ⟨ys, hys⟩ : ∃ ys : List Int, ys = (l.take ((p : Int) + (z : Int) : Int).toNat).drop (p : Int).toNat := ⟨_, rfl⟩
          rw [← hys] at hrun hCy
          have hyl : ys.length ≤ 1000 := by rw [hys, List.length_drop, List.length_take]; omega
          have HYS := hid hys
          clear hys hrd hcap
          go_wp2_with (at_builtin; go_loud (refine wpList_append_src _ rfl _ _ 75 rfl wq.heap.size 5 i0 (.int .u8 0) 1 Try.underlying75 I5.out.1 I5.out.2.1 I5.out.2.2.1 I5.out.2.2.2 rfl _ 0 [] rfl (World.ownsRow_made _ #[] 0 (Nat.le_refl _) (by decide) rfl) A' (c - (p : Int).toNat) .u8 ys rfl (Kd.C_alloc hCy.out _) (by simp only [maxLen]; omega) (by omega) (by simp) ?_))
          intro v' w' hown' hg'
          have hR6 : (Kd.int .u8).R 5 w' wq.heap.size (fun _ => True) v' ys := by
            apply R_of
            exact hown'
          obtain ⟨A6, c6, rfl, hc6, _⟩ := Kd.R_reads hR6
          have hbw : Below wq.heap.size wq w' := ((Below.refl _ wq).alloc (Nat.le_refl _) _).grown hg' (by simp) (fun k hk => by cases hk; exact Nat.le_refl _)
          have M6 := hid (blk_below MQH.out hbw)
          have m : ∀ j, w'.cell? ⟨b6, j, none⟩ = #[Value.int .u32 t0, .int .u16 (IntKind.u16.wrap st), .int .u16 seq, .bool ((p : Int) == 0), .bool (((p : Int) + (z : Int)) == (l.length : Int)), .bool false, .slice none 0 0][j]? := fun j => cell_of_block M6.out j
          have m0 : w'.cell? ⟨b6, 0, none⟩ = some (.int .u32 t0) := (m 0).trans rfl
          have m1 : w'.cell? ⟨b6, 1, none⟩ = some (.int .u16 (IntKind.u16.wrap st)) := (m 1).trans rfl
          have m2 : w'.cell? ⟨b6, 2, none⟩ = some (.int .u16 seq) := (m 2).trans rfl
          have m3 : w'.cell? ⟨b6, 3, none⟩ = some (.bool ((p : Int) == 0)) := (m 3).trans rfl
          have m4 : w'.cell? ⟨b6, 4, none⟩ = some (.bool (((p : Int) + (z : Int)) == (l.length : Int))) := (m 4).trans rfl
          have m5 : w'.cell? ⟨b6, 5, none⟩ = some (.bool false) := (m 5).trans rfl
          have m6 : w'.cell? ⟨b6, 6, none⟩ = some (.slice none 0 0) := (m 6).trans rfl
          have f6 : w'.frozen? ⟨b6, 6, none⟩ = false := unfrozen_of_block M6.out 6
          have hsz' := hbw.size
          have hbW : Below wr.heap.size wr (w'.setCell ⟨b6, 6, none⟩ (.slice A6 ys.length c6)) := (HBQ.out.trans (hbw.mono HBQ.out.size)).setCell (p := ⟨b6, 6, none⟩) (Nat.le_of_eq HB6.out.symm) _
          have HBW := hid hbW
          have HR6 := hid (R_far_at hR6 (p := ⟨b6, 6, none⟩) hsq (.slice A6 ys.length c6))
          have hlen12 : ((FL.cutL st false l tsn seq z).take j).length ≤ 1000 := by rw [List.length_take]; omega
          clear hrun m hbw hbW hR6 hg' hown'
          go_wp2_with (at_builtin; go_loud (refine Kd.R_append k93 (w0 := w'.setCell ⟨b6, 6, none⟩ (.slice A6 ys.length c6)) (W := w'.setCell ⟨b6, 6, none⟩ (.slice A6 ys.length c6)) (w.heap.size + 1) rfl _ _ 80 93 (.agg #[(.int .u32 0), (.int .u16 0), (.int .u16 0), (.bool false), (.bool false), (.bool false), (.slice none 0 0)]) 40 rfl Try.underlying80 info93 rfl (by decide) (by decide) _ ((FL.cutL st false l tsn seq z).take j) ⟨t0, IntKind.u16.wrap st, seq, ((p : Int) == 0), ((p : Int) + (z : Int)) == (l.length : Int), false, ys⟩ [.int .u32 t0, .int .u16 (IntKind.u16.wrap st), .int .u16 seq, .bool ((p : Int) == 0), .bool (((p : Int) + (z : Int)) == (l.length : Int)), .bool false, .slice A6 ys.length c6] (fun _ => True) (fun k => some k ≠ u9.ownBlock) rfl ?hx ?hp ?hokp (fun _ _ => trivial) (Kd.R_below HO.out HBW.out) (Below.refl _ _) ?hbase ?hl ?_))
          case hx =>
            show Value.slice (some ⟨w'.heap.size, 0, none⟩) 1 1 = Value.slice (some ⟨(w'.setCell _ _).heap.size, 0, none⟩) 1 1
            simp [World.setCell]
          case hp =>
            refine k93_mkM _ _ _ _ (Kd.R_lower (Kd.R_mono (Kd.R_bound HR6.out) (fun k hk e => ?_)) (by omega))
            have h1 := Kd.R_lt HO.out k e.symm
            have h2 := hk.2.1
            have h3 := HBQ.out.size
            omega
          case hokp => exact fun k hk => ⟨trivial, hk⟩
          case hbase => simp [World.setCell]; omega
          case hl => omega
          intro v1 w1 hR1 hB1 hg1 hat1
          have hys' : ys = (l.take (p + z)).drop p := by rw [HYS.out]; congr 1
          have hpe := piece_eq st tsn seq false l z _ j p hz1 rfl hlt HP.out (p + z) (by omega) (((p : Int) + (z : Int)) == (l.length : Int)) (HLST.out) seq rfl t0 HT0.out
          rw [← hys'] at hpe
          rw [hpe, FL.cutL_snoc _ _ _ _ _ _ _ hlt] at hR1
          have hfin := hid (And.intro hR1 (And.intro ((hB1.block w.heap.size (by omega)).trans (blk_below K0.out HBW.out)) (HB.out.trans ((HBW.out.mono HB.out.size).trans (hB1.mono (by omega))))))
          clear hR1 hB1 hg1 hat1 hpe hys'
          go_wp2
          go_roundw
          case rel => exact ⟨j + 1, by omega, by rw [HJZ.out, Int.natCast_add], hid hfin.out.2.1, hid hfin.out.1, hid hfin.out.2.2⟩
          case measure => simp [intOf]; omega
        · skip
          go_upto_region 8 with (fail)
          go_region_held3 (fun w' => w'.cell? ⟨w.heap.size, 0, none⟩ = some (.int .i64 st) ∧ w'.cell? ⟨w.heap.size, 1, none⟩ = some (.bool true) ∧ w'.cell? ⟨w.heap.size, 2, none⟩ = some (.slice A l.length c))
            (first | go_keep) (fail)
          obtain ⟨wp, hwp⟩ : ∃ wp : World, wp = (wr.alloc (.cells #[.int .u32 t0, .int .u16 (IntKind.u16.wrap st), .int .u16 0, .bool ((p : Int) == 0), .bool (((p : Int) + (z : Int)) == (l.length : Int)), .bool true, .slice none 0 0] 93)).drew := ⟨_, rfl⟩
          obtain ⟨b6, hb6⟩ : ∃ b6 : Nat, b6 = wr.heap.size := ⟨_, rfl⟩
          rw [← hwp, ← hb6]
          have M : wp.heap[b6]? = some (.cells #[.int .u32 t0, .int .u16 (IntKind.u16.wrap st), .int .u16 0, .bool ((p : Int) == 0), .bool (((p : Int) + (z : Int)) == (l.length : Int)), .bool true, .slice none 0 0] 93 (0, 0)) := by rw [hwp, hb6]; exact blk_drew (blk_new _ _)
          have hbp : Below wr.heap.size wr wp := by rw [hwp]; exact below_drew1 ((Below.refl _ _).alloc (Nat.le_refl _) _)
          have K4 := hid (blk_below K4.out hbp)
          have n40 : wp.cell? ⟨w.heap.size, 0, none⟩ = some (.int .i64 st) := (cell_of_block K4.out 0).trans rfl
          have n41 : wp.cell? ⟨w.heap.size, 1, none⟩ = some (.bool true) := (cell_of_block K4.out 1).trans rfl
          have n42 : wp.cell? ⟨w.heap.size, 2, none⟩ = some (.slice A l.length c) := (cell_of_block K4.out 2).trans rfl
          have m2 : wp.cell? ⟨b6, 2, none⟩ = some (.int .u16 0) := (cell_of_block M 2).trans rfl
          have f2 : wp.frozen? ⟨b6, 2, none⟩ = false := unfrozen_of_block M 2
          have MM := hid M
          have HBP := hid hbp
          have HB6 := hid hb6
          clear hwp hbp M hb6 hdv hw0 hw1 hw2
          go_upto_region 11 with (fail)
          obtain ⟨wq, hwq⟩ : ∃ wq : World, wq = wp := ⟨_, rfl⟩
          rw [← hwq]
          have hbq : Below wr.heap.size wr wq := by rw [hwq]; exact HBP.out
          have MQ : wq.heap[b6]? = some (.cells #[.int .u32 t0, .int .u16 (IntKind.u16.wrap st), .int .u16 0, .bool ((p : Int) == 0), .bool (((p : Int) + (z : Int)) == (l.length : Int)), .bool true, .slice none 0 0] 93 (0, 0)) := by rw [hwq]; exact MM.out
          have KQ : wq.heap[w.heap.size]? = some (.cells #[.int .i64 st, .bool true, .slice A l.length c] 77 (0, 0)) := blk_below K0.out hbq
          have n42 : wq.cell? ⟨w.heap.size, 2, none⟩ = some (.slice A l.length c) := (cell_of_block KQ 2).trans rfl
          have hsq := blk_lt MQ
          have hsw := blk_lt KQ
          have MQH := hid MQ
          have HBQ := hid hbq
          clear hwq MM HBP m2 f2 MQ hbq n40 n41
          obtain ⟨A', hrun, hrd, hcap⟩ := print_mid_int (k := .u8) (P := Try.prog) 75 5 Try.underlying75 I5.out.1 I5.out.2.2.1 A c l (p : Int) ((p : Int) + (z : Int)) (by omega) (by omega) (by omega) hc
          have hCy0 : (Kd.int .u8).C wq A' ((l.take ((p : Int) + (z : Int) : Int).toNat).drop (p : Int).toNat).length ((l.take ((p : Int) + (z : Int) : Int).toNat).drop (p : Int).toNat) := Kd.C_of_reads (d := (0 : Int)) (hrd wq (Kd.reads_of_C (enc := Value.int .u8) (d := (0 : Int)) (h1 := fun _ => rfl) (Kd.C_below HR.out (HB.out.trans (HBQ.out.mono HB.out.size)))))
          have hCy := hid hCy0
          clear hCy0
          obtain ⟨ys, hys⟩ : ∃ ys : List Int, ys = (l.take ((p : Int) + (z : Int) : Int).toNat).drop (p : Int).toNat := ⟨_, rfl⟩
          rw [← hys] at hrun hCy
          have hyl : ys.length ≤ 1000 := by rw [hys, List.length_drop, List.length_take]; omega
          have HYS := hid hys
          clear hys hrd hcap
          go_wp2_with (at_builtin; go_loud (refine wpList_append_src _ rfl _ _ 75 rfl wq.heap.size 5 i0 (.int .u8 0) 1 Try.underlying75 I5.out.1 I5.out.2.1 I5.out.2.2.1 I5.out.2.2.2 rfl _ 0 [] rfl (World.ownsRow_made _ #[] 0 (Nat.le_refl _) (by decide) rfl) A' (c - (p : Int).toNat) .u8 ys rfl (Kd.C_alloc hCy.out _) (by simp only [maxLen]; omega) (by omega) (by simp) ?_))
          intro v' w' hown' hg'
          have hR6 : (Kd.int .u8).R 5 w' wq.heap.size (fun _ => True) v' ys := by
            apply R_of
            exact hown'
          obtain ⟨A6, c6, rfl, hc6, _⟩ := Kd.R_reads hR6
          have hbw : Below wq.heap.size wq w' := ((Below.refl _ wq).alloc (Nat.le_refl _) _).grown hg' (by simp) (fun k hk => by cases hk; exact Nat.le_refl _)
          have M6 := hid (blk_below MQH.out hbw)
          have m : ∀ j, w'.cell? ⟨b6, j, none⟩ = #[Value.int .u32 t0, .int .u16 (IntKind.u16.wrap st), .int .u16 0, .bool ((p : Int) == 0), .bool (((p : Int) + (z : Int)) == (l.length : Int)), .bool true, .slice none 0 0][j]? := fun j => cell_of_block M6.out j
          have m0 : w'.cell? ⟨b6, 0, none⟩ = some (.int .u32 t0) := (m 0).trans rfl
          have m1 : w'.cell? ⟨b6, 1, none⟩ = some (.int .u16 (IntKind.u16.wrap st)) := (m 1).trans rfl
          have m2 : w'.cell? ⟨b6, 2, none⟩ = some (.int .u16 0) := (m 2).trans rfl
          have m3 : w'.cell? ⟨b6, 3, none⟩ = some (.bool ((p : Int) == 0)) := (m 3).trans rfl
          have m4 : w'.cell? ⟨b6, 4, none⟩ = some (.bool (((p : Int) + (z : Int)) == (l.length : Int))) := (m 4).trans rfl
          have m5 : w'.cell? ⟨b6, 5, none⟩ = some (.bool true) := (m 5).trans rfl
          have m6 : w'.cell? ⟨b6, 6, none⟩ = some (.slice none 0 0) := (m 6).trans rfl
          have f6 : w'.frozen? ⟨b6, 6, none⟩ = false := unfrozen_of_block M6.out 6
          have hsz' := hbw.size
          have hbW : Below wr.heap.size wr (w'.setCell ⟨b6, 6, none⟩ (.slice A6 ys.length c6)) := (HBQ.out.trans (hbw.mono HBQ.out.size)).setCell (p := ⟨b6, 6, none⟩) (Nat.le_of_eq HB6.out.symm) _
          have HBW := hid hbW
          have HR6 := hid (R_far_at hR6 (p := ⟨b6, 6, none⟩) hsq (.slice A6 ys.length c6))
          have hlen12 : ((FL.cutL st true l tsn seq z).take j).length ≤ 1000 := by rw [List.length_take]; omega
          clear hrun m hbw hbW hR6 hg' hown'
          go_wp2_with (at_builtin; go_loud (refine Kd.R_append k93 (w0 := w'.setCell ⟨b6, 6, none⟩ (.slice A6 ys.length c6)) (W := w'.setCell ⟨b6, 6, none⟩ (.slice A6 ys.length c6)) (w.heap.size + 1) rfl _ _ 80 93 (.agg #[(.int .u32 0), (.int .u16 0), (.int .u16 0), (.bool false), (.bool false), (.bool false), (.slice none 0 0)]) 40 rfl Try.underlying80 info93 rfl (by decide) (by decide) _ ((FL.cutL st true l tsn seq z).take j) ⟨t0, IntKind.u16.wrap st, 0, ((p : Int) == 0), ((p : Int) + (z : Int)) == (l.length : Int), true, ys⟩ [.int .u32 t0, .int .u16 (IntKind.u16.wrap st), .int .u16 0, .bool ((p : Int) == 0), .bool (((p : Int) + (z : Int)) == (l.length : Int)), .bool true, .slice A6 ys.length c6] (fun _ => True) (fun k => some k ≠ u9.ownBlock) rfl ?hx ?hp ?hokp (fun _ _ => trivial) (Kd.R_below HO.out HBW.out) (Below.refl _ _) ?hbase ?hl ?_))
          case hx =>
            show Value.slice (some ⟨w'.heap.size, 0, none⟩) 1 1 = Value.slice (some ⟨(w'.setCell _ _).heap.size, 0, none⟩) 1 1
            simp [World.setCell]
          case hp =>
            refine k93_mkM _ _ _ _ (Kd.R_lower (Kd.R_mono (Kd.R_bound HR6.out) (fun k hk e => ?_)) (by omega))
            have h1 := Kd.R_lt HO.out k e.symm
            have h2 := hk.2.1
            have h3 := HBQ.out.size
            omega
          case hokp => exact fun k hk => ⟨trivial, hk⟩
          case hbase => simp [World.setCell]; omega
          case hl => omega
          intro v1 w1 hR1 hB1 hg1 hat1
          have hys' : ys = (l.take (p + z)).drop p := by rw [HYS.out]; congr 1
          have hpe := piece_eq st tsn seq true l z _ j p hz1 rfl hlt HP.out (p + z) (by omega) (((p : Int) + (z : Int)) == (l.length : Int)) (HLST.out) 0 rfl t0 HT0.out
          rw [← hys'] at hpe
          rw [hpe, FL.cutL_snoc _ _ _ _ _ _ _ hlt] at hR1
          have hfin := hid (And.intro hR1 (And.intro ((hB1.block w.heap.size (by omega)).trans (blk_below K0.out HBW.out)) (HB.out.trans ((HBW.out.mono HB.out.size).trans (hB1.mono (by omega))))))
          clear hR1 hB1 hg1 hat1 hpe hys'
          go_wp2
          go_roundw
          case rel => exact ⟨j + 1, by omega, by rw [HJZ.out, Int.natCast_add], hid hfin.out.2.1, hid hfin.out.1, hid hfin.out.2.2⟩
          case measure => simp [intOf]; omega
    · obtain rfl : j = parts l.length z := by omega
      have hge : l.length ≤ parts l.length z * z := by
        have h1 : ¬ parts l.length z < parts l.length z := by omega
        rw [parts_lt hz1] at h1
        omega
      rw [List.take_of_length_le (by rw [FL.cutL_len]; exact Nat.le_refl _)] at HO
      generalize parts l.length z * z = p at *
      go_wp2
      go_ret
      exact ⟨_, rfl, Kd.R_lower HO.out (by omega), HB.out⟩
end Go.Proofs.Ytgbjbmakjilddaa.QFrag
