import Derived.Test.YtgbjbmakjilddaaFragRefCut
namespace Go.Proofs.Ytgbjbmakjilddaa.QFrag
open Go.RowKit Go.Proofs.YtgbjbmakjilddaaW.PrintWords Go.Proofs.YtgbjbmakjilddaaW.PrintLast Go.Proofs.YtgbjbmakjilddaaW.PrintMore Go.ChangeShapes Go.WideShapes Go.ChangeAt Go.Shelf
open Base (hid slice_of_row ret_bool cell_new1 cell_old1 froz_new1 froz_old1)
open Go.Joins (cell_of_block unfrozen_of_block)
attribute [local go_sem] Oper.semAt_some
set_option linter.unusedVariables false
theorem Mid.R93 {B hi b : Nat} {w w' : World} (h : Mid B hi w w') (hb : hi ≤ b) {v : Value} {xs : List S93} (hr : Kd.R k93 93 w b (fun _ => True) v xs) : Kd.R k93 93 w' b (fun _ => True) v xs :=
  Kd.R_mono (Kd.R_step (Kd.R_bound hr) (fun k hk _ => h.block k (.inr (Nat.le_trans hb hk.2.1)))) (fun _ _ => trivial)
def Pk1 (w : World) (A : Option Addr) (n B hi : Nat) : Prop := ∀ k, k < n → ∃ a x, A = some a ∧ B ≤ a.block ∧ a.block < hi ∧ w.cell? (a.add k) = some (.int .u8 x) ∧ w.frozen? (a.add k) = false
theorem pk1_of {W : World} {B c n : Nat} {A : Option Addr} {ys : List Int} (h : (Kd.int .u8).R 5 W B (fun _ => True) (.slice A n c) ys) : Pk1 W A ys.length B W.heap.size := by
  obtain ⟨A', c', e, _, hk⟩ := row_poke h
  cases e
  intro k hk'
  obtain ⟨g, x, e, _, h1, h2, h3, h4⟩ := hk k hk'
  refine ⟨⟨g, 0, none⟩, x, e, h1, h2, ?_, ?_⟩
  · rw [WideShapes.add_plain, Nat.zero_add]; exact h3
  · rw [WideShapes.add_plain, Nat.zero_add]; exact h4
theorem pk1_move {W W' : World} {A : Option Addr} {n B hi : Nat} (h : Pk1 W A n B hi) (hb : ∀ k, k < W.heap.size → W'.heap[k]? = W.heap[k]?) : Pk1 W' A n B hi := by
  intro k hk
  obtain ⟨a, x, e, h1, h2, h3, h4⟩ := h k hk
  have hlt := World.block_lt_of_cell? W _ h3
  refine ⟨a, x, e, h1, h2, ?_, ?_⟩
  · rw [← h3]; unfold World.cell?; rw [hb _ hlt]
  · rw [← h4]; unfold World.frozen?; rw [hb _ hlt]
theorem pk1_set {w : World} {A : Option Addr} {n B hi : Nat} (h : Pk1 w A n B hi) {p : Addr} (y : Int) : Pk1 (w.setCell p (.int .u8 y)) A n B hi := by
  intro k hk
  obtain ⟨a, x, e, h1, h2, h3, h4⟩ := h k hk
  by_cases hs : p = a.add k
  · refine ⟨a, y, e, h1, h2, ?_, by rw [World.frozen?_setCell]; exact h4⟩
    rw [hs]
    exact World.cell?_setCell_same _ _ _ h3
  · refine ⟨a, x, e, h1, h2, ?_, by rw [World.frozen?_setCell]; exact h4⟩
    rw [World.cell?_setCell_other _ _ _ _ hs]
    exact h3
set_option maxRecDepth 100000 in
set_option maxHeartbeats 8000000 in
theorem cuts_calls (st : Int) (un : Bool) (A : Option Addr) (c : Nat) (l : List Int) (tsn seq s : Int) (w : World) (hr : (Kd.int .u8).C w A l.length l) (hc : l.length ≤ c) :
    Calls Try.prog 8 #[.agg #[.int .i64 st, .bool un, .slice A l.length c], .agg #[.int .u32 tsn, .int .u16 seq, .int .i64 s]] w fun e w' => e = .returned (.bool true) ∧ Below w.heap.size w w' := by
  have hu77 := Try.underlying77
  have hu79 := Try.underlying79
  have hlm : l.length ≤ 9223372036854775807 := hr.2.1
  have HR := hid hr
  obtain ⟨i0, hi0, hz⟩ := Option.map_eq_some_iff.1 info5
  simp only [Prod.mk.injEq] at hz
  obtain ⟨hz0, hz1', hz2'⟩ := hz
  have I5 := hid (And.intro hi0 (And.intro hz0 (And.intro hz1' hz2')))
  clear hi0 hz0 hz1' hz2' hr
  go_enter Try.func8, Try.ntmps8
  go_wp2_with (go_at_call 39; refine (weftlinelaw16_alive.calls true _ rfl).mono ?_)
  rintro e w1 ⟨rfl, hb⟩
  have hb0 : Below w.heap.size w ((w.alloc (.cells #[.int .i64 st, .bool un, .slice A l.length c] 77)).alloc (.cells #[.int .u32 tsn, .int .u16 seq, .int .i64 s] 79)) := ((Below.refl _ w).alloc (Nat.le_refl _) _).alloc (by simp) _
  have K2 := hid (blk_below (blk_alloc (blk_new w (.cells #[.int .i64 st, .bool un, .slice A l.length c] 77)) (.cells #[.int .u32 tsn, .int .u16 seq, .int .i64 s] 79)) hb)
  have K3' := blk_below (blk_new (w.alloc (.cells #[.int .i64 st, .bool un, .slice A l.length c] 77)) (.cells #[.int .u32 tsn, .int .u16 seq, .int .i64 s] 79)) hb
  rw [show (w.alloc (.cells #[.int .i64 st, .bool un, .slice A l.length c] 77)).heap.size = w.heap.size + 1 by simp] at K3'
  have K3 := hid K3'
  have HB := hid (hb0.trans (hb.mono hb0.size))
  clear hb hb0 K3'
  have n22 : w1.cell? ⟨w.heap.size, 2, none⟩ = some (.slice A l.length c) := (cell_of_block K2.out 2).trans rfl
  by_cases hl : l.length ≤ 1000
  rotate_left
  · have hlI : (1000 : Int) < (l.length : Int) := by omega
    go_wp2
    go_ret
    exact ⟨rfl, HB.out⟩
  have n20 : w1.cell? ⟨w.heap.size, 0, none⟩ = some (.int .i64 st) := (cell_of_block K2.out 0).trans rfl
  have n21 : w1.cell? ⟨w.heap.size, 1, none⟩ = some (.bool un) := (cell_of_block K2.out 1).trans rfl
  have zw : w.heap.size < w1.heap.size := blk_lt K2.out
  have hCm := hid (Kd.C_below HR.out HB.out)
  have zb1 : w.heap.size + 1 < w1.heap.size := blk_lt K3.out
  go_upto_region 6 with (fail)
  obtain ⟨wo, hwo⟩ : ∃ wo : World, wo = w1.alloc (.cells #[.int .i64 st, .bool un, .slice A l.length c] 77) := ⟨_, rfl⟩
  obtain ⟨b5, hb5⟩ : ∃ b5 : Nat, b5 = w1.heap.size := ⟨_, rfl⟩
  rw [← hwo, ← hb5]
  have M5 := hid (show wo.heap[b5]? = some (.cells #[.int .i64 st, .bool un, .slice A l.length c] 77 (0, 0)) by rw [hwo, hb5]; exact blk_new _ _)
  have hbo : Below w1.heap.size w1 wo := by rw [hwo]; exact (Below.refl _ _).alloc (Nat.le_refl _) _
  have z5 : b5 < wo.heap.size := blk_lt M5.out
  have K2 := hid (blk_below K2.out hbo)
  have K3 := hid (blk_below K3.out hbo)
  have HB := hid (HB.out.trans (hbo.mono HB.out.size))
  have hCm := hid (Kd.C_below hCm.out hbo)
  have n22 : wo.cell? ⟨w.heap.size, 2, none⟩ = some (.slice A l.length c) := (cell_of_block K2.out 2).trans rfl
  have m5 : wo.cell? ⟨b5, 2, none⟩ = some (.slice A l.length c) := (cell_of_block M5.out 2).trans rfl
  have f5 : wo.frozen? ⟨b5, 2, none⟩ = false := unfrozen_of_block M5.out 2
  have zb : w.heap.size + 1 < b5 := by omega
  have zwo : w.heap.size < wo.heap.size := by omega
  clear hwo hb5 hbo n20 n21
  go_wp2_with (at_builtin; go_loud (refine wpList_append_src _ rfl _ _ 75 rfl wo.heap.size 5 i0 (.int .u8 0) 1 Try.underlying75 I5.out.1 I5.out.2.1 I5.out.2.2.1 I5.out.2.2.2 rfl _ 0 [] rfl (World.ownsRow_made _ #[] 0 (Nat.le_refl _) (by decide) rfl) A c .u8 l rfl (Kd.C_alloc hCm.out _) (by simp only [maxLen]; omega) (by omega) (by simp) ?_))
  intro v' w' hown' hg'
  have hR5 : (Kd.int .u8).R 5 w' wo.heap.size (fun _ => True) v' l := by
    apply R_of
    exact hown'
  obtain ⟨A5, c5, rfl, hc5, _⟩ := Kd.R_reads hR5
  have hbw : Below wo.heap.size wo w' := ((Below.refl _ _).alloc (Nat.le_refl _) _).grown hg' (by simp) (fun k hk => by cases hk; exact Nat.le_refl _)
  have M5 := hid (blk_below M5.out hbw)
  have m5 : w'.cell? ⟨b5, 2, none⟩ = some (.slice A l.length c) := (cell_of_block M5.out 2).trans rfl
  have f5 : w'.frozen? ⟨b5, 2, none⟩ = false := unfrozen_of_block M5.out 2
  obtain ⟨wq, hwq⟩ : ∃ wq : World, wq = w'.setCell ⟨b5, 2, none⟩ (.slice A5 l.length c5) := ⟨_, rfl⟩
  have K5 := hid (show wq.heap[b5]? = some (.cells #[.int .i64 st, .bool un, .slice A5 l.length c5] 77 (0, 0)) by rw [hwq]; exact blk_put (cs := #[.int .i64 st, .bool un, .slice A l.length c]) M5.out 2 _ rfl)
  have R5 := hid (show (Kd.int .u8).R 5 wq wo.heap.size (fun _ => True) (.slice A5 l.length c5) l by rw [hwq]; exact R_far_at hR5 (p := ⟨b5, 2, none⟩) z5 _)
  have K2 := hid (show wq.heap[w.heap.size]? = some (.cells #[.int .i64 st, .bool un, .slice A l.length c] 77 (0, 0)) by rw [hwq]; exact blk_far (blk_below K2.out hbw) (by simp; omega) _)
  have K3 := hid (show wq.heap[w.heap.size + 1]? = some (.cells #[.int .u32 tsn, .int .u16 seq, .int .i64 s] 79 (0, 0)) by rw [hwq]; exact blk_far (blk_below K3.out hbw) (by simp; omega) _)
  have HB := hid (show Below w.heap.size w wq by rw [hwq]; exact (HB.out.trans (hbw.mono HB.out.size)).setCell (p := ⟨b5, 2, none⟩) (by simp; omega) _)
  have zwq : wo.heap.size ≤ wq.heap.size := by rw [hwq]; simp only [World.setCell]; simpa using hbw.size
  have HWQ := hid hwq
  clear hwq hbw hR5 hown' hg' hCm
  go_upto_region 7 with (fail)
  rw [← HWQ.out]
  clear HWQ m5 f5 n22 M5
  have n20 : wq.cell? ⟨w.heap.size, 0, none⟩ = some (.int .i64 st) := (cell_of_block K2.out 0).trans rfl
  have n21 : wq.cell? ⟨w.heap.size, 1, none⟩ = some (.bool un) := (cell_of_block K2.out 1).trans rfl
  have n22 : wq.cell? ⟨w.heap.size, 2, none⟩ = some (.slice A l.length c) := (cell_of_block K2.out 2).trans rfl
  have n30 : wq.cell? ⟨w.heap.size + 1, 0, none⟩ = some (.int .u32 tsn) := (cell_of_block K3.out 0).trans rfl
  have n31 : wq.cell? ⟨w.heap.size + 1, 1, none⟩ = some (.int .u16 seq) := (cell_of_block K3.out 1).trans rfl
  have n32 : wq.cell? ⟨w.heap.size + 1, 2, none⟩ = some (.int .i64 s) := (cell_of_block K3.out 2).trans rfl
  have n50 : wq.cell? ⟨b5, 0, none⟩ = some (.int .i64 st) := (cell_of_block K5.out 0).trans rfl
  have n51 : wq.cell? ⟨b5, 1, none⟩ = some (.bool un) := (cell_of_block K5.out 1).trans rfl
  have n52 : wq.cell? ⟨b5, 2, none⟩ = some (.slice A5 l.length c5) := (cell_of_block K5.out 2).trans rfl
  obtain ⟨⟨r1, r2⟩, hcut, hcase⟩ : ∃ q : List S93 × Option Int, frag_Cut.f st un l tsn seq s = some q ∧ (goodB st l.length = false ∧ q = ([], some 2) ∨ goodB st l.length = true ∧ withinB s 1 64 = false ∧ q = ([], some 1) ∨ ∃ z : Nat, s = (z : Int) ∧ 1 ≤ z ∧ z ≤ 64 ∧ goodB st l.length = true ∧ q = (FL.cutL st un l tsn seq z, none)) := by
    unfold frag_Cut.f
    rw [if_neg (by omega)]
    cases hg : goodB st l.length with
    | false => exact ⟨_, if_pos rfl, .inl ⟨rfl, rfl⟩⟩
    | true =>
      rw [if_neg (by decide)]
      cases hs : withinB s 1 64 with
      | false => exact ⟨_, if_pos rfl, .inr (.inl ⟨rfl, rfl, rfl⟩)⟩
      | true =>
        obtain ⟨z, rfl, h1, h2⟩ := size_of hs
        refine ⟨_, if_neg (by decide), .inr (.inr ⟨z, rfl, h1, h2, rfl, ?_⟩)⟩
        have hg1 := (good_len hg).1
        rw [Int.toNat_natCast, FL.marked_eq st un l tsn seq z ((parts_lt h1).2 (by omega))]
  have HCUT := hid hcut
  have HCASE := hid hcase
  clear hcut hcase
  have hrd5 := Kd.R_reads' R5.out
  go_wp2_with (go_at_call 40; refine (frag_Cut.calls st un A5 c5 l tsn seq s r1 r2 _ hrd5.2.2 hrd5.2.1 HCUT.out).mono ?_)
  intro e w2 v6 he hR6 hb2
  subst he
  obtain ⟨A6, c6, rfl, hc6, hC6⟩ := Kd.R_reads hR6
  have R6 := hid hR6
  have hiwq : b5 < wq.heap.size := blk_lt K5.out
  obtain ⟨hi, hhi⟩ : ∃ hi : Nat, hi = wq.heap.size := ⟨_, rfl⟩
  have hPk := pk1_of R5.out
  have hPk2 := hid (pk1_move hPk hb2.block)
  have hw2s : wq.heap.size ≤ w2.heap.size := hb2.size
  rw [← hhi] at hPk2 R6 hw2s hiwq zwq
  clear hR6 hC6 hrd5 hPk
  have K2 := hid (blk_below K2.out hb2)
  have K3 := hid (blk_below K3.out hb2)
  have K5 := hid (blk_below K5.out hb2)
  have HB := hid (HB.out.trans (hb2.mono HB.out.size))
  have R5 := hid (Kd.R_below R5.out hb2)
  have hCm := hid (Kd.C_below HR.out HB.out)
  clear hb2
  clear n20 n21 n22 n30 n31 n32 n50 n51 n52
  have n20 : w2.cell? ⟨w.heap.size, 0, none⟩ = some (.int .i64 st) := (cell_of_block K2.out 0).trans rfl
  have n21 : w2.cell? ⟨w.heap.size, 1, none⟩ = some (.bool un) := (cell_of_block K2.out 1).trans rfl
  have n22 : w2.cell? ⟨w.heap.size, 2, none⟩ = some (.slice A l.length c) := (cell_of_block K2.out 2).trans rfl
  have n30 : w2.cell? ⟨w.heap.size + 1, 0, none⟩ = some (.int .u32 tsn) := (cell_of_block K3.out 0).trans rfl
  have n31 : w2.cell? ⟨w.heap.size + 1, 1, none⟩ = some (.int .u16 seq) := (cell_of_block K3.out 1).trans rfl
  have n32 : w2.cell? ⟨w.heap.size + 1, 2, none⟩ = some (.int .i64 s) := (cell_of_block K3.out 2).trans rfl
  have n50 : w2.cell? ⟨b5, 0, none⟩ = some (.int .i64 st) := (cell_of_block K5.out 0).trans rfl
  have n51 : w2.cell? ⟨b5, 1, none⟩ = some (.bool un) := (cell_of_block K5.out 1).trans rfl
  have n52 : w2.cell? ⟨b5, 2, none⟩ = some (.slice A5 l.length c5) := (cell_of_block K5.out 2).trans rfl
  clear hhi
  go_wp2_with (go_at_call 41; refine (weftlineref16_Good.calls st un A c l _ _ hCm.out hc (FL.good_ref st un l)).mono ?_)
  rintro e w3 ⟨rfl, hb3⟩
  have hPk3 := hid (pk1_move hPk2.out hb3.block)
  have hw3s : hi ≤ w3.heap.size := Nat.le_trans hw2s hb3.size
  have K2 := hid (blk_below K2.out hb3)
  have K3 := hid (blk_below K3.out hb3)
  have K5 := hid (blk_below K5.out hb3)
  have HB := hid (HB.out.trans (hb3.mono HB.out.size))
  have R5 := hid (Kd.R_below R5.out hb3)
  have R6 := hid (Kd.R_below R6.out hb3)
  have hCm := hid (Kd.C_below HR.out HB.out)
  clear hb3
  clear n20 n21 n22 n30 n31 n32 n50 n51 n52
  have n20 : w3.cell? ⟨w.heap.size, 0, none⟩ = some (.int .i64 st) := (cell_of_block K2.out 0).trans rfl
  have n21 : w3.cell? ⟨w.heap.size, 1, none⟩ = some (.bool un) := (cell_of_block K2.out 1).trans rfl
  have n22 : w3.cell? ⟨w.heap.size, 2, none⟩ = some (.slice A l.length c) := (cell_of_block K2.out 2).trans rfl
  have n30 : w3.cell? ⟨w.heap.size + 1, 0, none⟩ = some (.int .u32 tsn) := (cell_of_block K3.out 0).trans rfl
  have n31 : w3.cell? ⟨w.heap.size + 1, 1, none⟩ = some (.int .u16 seq) := (cell_of_block K3.out 1).trans rfl
  have n32 : w3.cell? ⟨w.heap.size + 1, 2, none⟩ = some (.int .i64 s) := (cell_of_block K3.out 2).trans rfl
  have n50 : w3.cell? ⟨b5, 0, none⟩ = some (.int .i64 st) := (cell_of_block K5.out 0).trans rfl
  have n51 : w3.cell? ⟨b5, 1, none⟩ = some (.bool un) := (cell_of_block K5.out 1).trans rfl
  have n52 : w3.cell? ⟨b5, 2, none⟩ = some (.slice A5 l.length c5) := (cell_of_block K5.out 2).trans rfl
  obtain ⟨g, hgd⟩ : ∃ g : Bool, g = goodB st l.length := ⟨_, rfl⟩
  obtain ⟨sb, hsb⟩ : ∃ sb : Bool, sb = withinB s 1 64 := ⟨_, rfl⟩
  have hgood := FL.good_frag st un l
  rw [← hgd] at hgood ⊢
  have HGOOD := hid hgood
  have HGD := hid hgd
  have HSB := hid hsb
  clear hgood hgd hsb
  go_upto_region 9 with (fail)
  go_cut [9] (fun s9 wx => s9 = .bool sb ∧ wx = w3)
  case first =>
    have hsb := HSB.out
    unfold withinB at hsb
    by_cases s1 : 1 ≤ s
    rotate_left
    · rw [decide_eq_false s1, Bool.false_and] at hsb
      have hsb := hid hsb
      go_wp2
      go_meet
      exact ⟨by rw [hsb.out], rfl⟩
    by_cases s2 : s ≤ 64
    rotate_left
    · rw [decide_eq_false s2, Bool.and_false] at hsb
      have hsb := hid hsb
      go_wp2
      go_meet
      exact ⟨by rw [hsb.out], rfl⟩
    rw [decide_eq_true s1, decide_eq_true s2] at hsb
    have hsb := hid hsb
    go_wp2
    go_meet
    exact ⟨by rw [hsb.out]; rfl, rfl⟩
  obtain ⟨rfl, rfl⟩ := hcut
  go_wp2_with (go_at_call 42; refine (frag_Good.calls st un A c l g _ hCm.out hc HGOOD.out).mono ?_)
  rintro e w4 ⟨rfl, hb4⟩
  have hPk4 := hid (pk1_move hPk3.out hb4.block)
  have hw4s : hi ≤ w4.heap.size := Nat.le_trans hw3s hb4.size
  have K2 := hid (blk_below K2.out hb4)
  have K3 := hid (blk_below K3.out hb4)
  have K5 := hid (blk_below K5.out hb4)
  have HB := hid (HB.out.trans (hb4.mono HB.out.size))
  have R5 := hid (Kd.R_below R5.out hb4)
  have R6 := hid (Kd.R_below R6.out hb4)
  have hCm := hid (Kd.C_below HR.out HB.out)
  clear hb4
  clear n20 n21 n22 n30 n31 n32 n50 n51 n52
  have n20 : w4.cell? ⟨w.heap.size, 0, none⟩ = some (.int .i64 st) := (cell_of_block K2.out 0).trans rfl
  have n21 : w4.cell? ⟨w.heap.size, 1, none⟩ = some (.bool un) := (cell_of_block K2.out 1).trans rfl
  have n22 : w4.cell? ⟨w.heap.size, 2, none⟩ = some (.slice A l.length c) := (cell_of_block K2.out 2).trans rfl
  have n30 : w4.cell? ⟨w.heap.size + 1, 0, none⟩ = some (.int .u32 tsn) := (cell_of_block K3.out 0).trans rfl
  have n31 : w4.cell? ⟨w.heap.size + 1, 1, none⟩ = some (.int .u16 seq) := (cell_of_block K3.out 1).trans rfl
  have n32 : w4.cell? ⟨w.heap.size + 1, 2, none⟩ = some (.int .i64 s) := (cell_of_block K3.out 2).trans rfl
  have n50 : w4.cell? ⟨b5, 0, none⟩ = some (.int .i64 st) := (cell_of_block K5.out 0).trans rfl
  have n51 : w4.cell? ⟨b5, 1, none⟩ = some (.bool un) := (cell_of_block K5.out 1).trans rfl
  have n52 : w4.cell? ⟨b5, 2, none⟩ = some (.slice A5 l.length c5) := (cell_of_block K5.out 2).trans rfl
  clear hPk2 hPk3 hw2s hw3s HGOOD
  rcases HCASE.out with ⟨hg, hq⟩ | ⟨hg, hs, hq⟩ | ⟨z, rfl, hz1, hz2, hg, hq⟩
  · obtain ⟨rfl, rfl⟩ := Prod.mk.inj hq
    have hg' := HGD.out.trans hg
    clear HCASE HCUT hg hq HGD HSB
    subst hg'
    rw [errW_some]
    go_wp2_with (go_at_call 37; refine (weftlinenum_Is.calls (some 2) 2 true _ rfl).mono ?_)
    rintro e w5 ⟨rfl, hD⟩
    have hB := hid (HB.out.trans (hD.below.mono HB.out.size))
    go_wp2
    go_ret
    exact ⟨rfl, hB.out⟩
  · obtain ⟨rfl, rfl⟩ := Prod.mk.inj hq
    have hg' := HGD.out.trans hg
    have hs' := HSB.out.trans hs
    have hmany := hid (FL.many_no (l.length : Int) s hs)
    clear HCASE HCUT hg hq HGD HSB hs
    subst hg' hs'
    rw [errW_some]
    go_wp2_with (go_at_call 37; refine (weftlinenum_Is.calls (some 1) 1 true _ rfl).mono ?_)
    rintro e w5 ⟨rfl, hD⟩
    have hb5' := hD.below
    have K2 := hid (blk_below K2.out hb5')
    have K3 := hid (blk_below K3.out hb5')
    have K5 := hid (blk_below K5.out hb5')
    have HB := hid (HB.out.trans (hb5'.mono HB.out.size))
    have R5 := hid (Kd.R_below R5.out hb5')
    have R6 := hid (Kd.R_below R6.out hb5')
    have hCm := hid (Kd.C_below HR.out HB.out)
    clear hb5'
    clear n20 n21 n22 n30 n31 n32 n50 n51 n52
    have n20 : w5.cell? ⟨w.heap.size, 0, none⟩ = some (.int .i64 st) := (cell_of_block K2.out 0).trans rfl
    have n21 : w5.cell? ⟨w.heap.size, 1, none⟩ = some (.bool un) := (cell_of_block K2.out 1).trans rfl
    have n22 : w5.cell? ⟨w.heap.size, 2, none⟩ = some (.slice A l.length c) := (cell_of_block K2.out 2).trans rfl
    have n30 : w5.cell? ⟨w.heap.size + 1, 0, none⟩ = some (.int .u32 tsn) := (cell_of_block K3.out 0).trans rfl
    have n31 : w5.cell? ⟨w.heap.size + 1, 1, none⟩ = some (.int .u16 seq) := (cell_of_block K3.out 1).trans rfl
    have n32 : w5.cell? ⟨w.heap.size + 1, 2, none⟩ = some (.int .i64 s) := (cell_of_block K3.out 2).trans rfl
    have n50 : w5.cell? ⟨b5, 0, none⟩ = some (.int .i64 st) := (cell_of_block K5.out 0).trans rfl
    have n51 : w5.cell? ⟨b5, 1, none⟩ = some (.bool un) := (cell_of_block K5.out 1).trans rfl
    have n52 : w5.cell? ⟨b5, 2, none⟩ = some (.slice A5 l.length c5) := (cell_of_block K5.out 2).trans rfl
    clear hD
    go_wp2_with (go_at_call 43; refine (frag_Many.calls (l.length : Int) s 0 _ hmany.out).mono ?_)
    rintro e w6 ⟨rfl, hD⟩
    have hB := hid (HB.out.trans (hD.below.mono HB.out.size))
    clear hD
    go_wp2
    go_ret
    exact ⟨rfl, hB.out⟩
  · obtain ⟨rfl, rfl⟩ := Prod.mk.inj hq
    have hg' := HGD.out.trans hg
    have hs' : sb = true := HSB.out.trans (by unfold withinB; rw [decide_eq_true (show (1 : Int) ≤ (z : Int) by omega), decide_eq_true (show (z : Int) ≤ 64 by omega)]; rfl)
    have hlen := good_len hg
    have HGT := hid hg
    clear HCASE HCUT hg hq HGD HSB
    subst hg' hs'
    rw [errW_none]
    obtain ⟨cl, hcl⟩ : ∃ cl : List S93, cl = FL.cutL st un l tsn seq z := ⟨_, rfl⟩
    rw [← hcl] at R6 hc6 ⊢
    have hN : cl.length = parts l.length z := by rw [hcl, FL.cutL_len]
    have hNle : cl.length ≤ 1000 := by have := parts_le l.length z hz1; omega
    have hpcs := hid (FL.pieces_self 1001 cl (by omega) (by omega))
    have hwh := FL.whole_eq 1001 cl hNle (by rw [hcl]; exact FL.cut_first st un l tsn seq z) (by omega)
    rw [show FL.wholeF cl = (st, un, l, none) by rw [hcl]; exact FL.cut_whole st un l tsn seq z hz1 hz2 HGT.out] at hwh
    have hmy := FL.many_eq l.length z (by have h := HGT.out; unfold goodB at h; rw [Bool.and_eq_true] at h; exact h.2) (by unfold withinB; rw [decide_eq_true (show (1 : Int) ≤ (z : Int) by omega), decide_eq_true (show (z : Int) ≤ 64 by omega)]; rfl)
    rw [← hN] at hmy
    have HCL := hid hcl
    have HWH := hid hwh
    have HMY := hid hmy
    clear hcl hwh hmy hN
    have zB : b5 < wo.heap.size := z5
    have zhi : wo.heap.size ≤ hi := zwq
    go_wp2
    go_loopw [74] (fun v74 wx => ∃ k : Nat, k ≤ l.length ∧ v74 = .int .i64 k ∧ Hid (Pk1 wx A5 l.length wo.heap.size hi) ∧ Hid (Mid wo.heap.size hi w4 wx)) (fun v _ => l.length - (intOf v).toNat)
    case atStart => exact ⟨0, Nat.zero_le _, rfl, hPk4, hid (Mid.refl _ _ _)⟩
    case round =>
      clear hPk4
      obtain ⟨k, hk, rfl, HP, HM⟩ := hrel
      by_cases hkl : k < l.length
      · have m52 : wr.cell? ⟨b5, 2, none⟩ = some (.slice A5 l.length c5) := (HM.out.cell ⟨b5, 2, none⟩ (.inl z5)).trans n52
        obtain ⟨a6, x, rfl, b1, b2, b3, b4⟩ := HP.out k hkl
        have hqk : (k : Int).toNat = k := Int.toNat_natCast k
        clear n20 n21 n22 n30 n31 n32 n50 n51 n52
        go_wp2
        go_roundw
        case rel => exact ⟨k + 1, by omega, by go_num, hid (pk1_set HP.out _), hid (HM.out.set (by rw [add_block]; exact b1) (by rw [add_block]; exact b2) _)⟩
        case measure => simp [intOf]; omega
      · obtain rfl : k = l.length := by omega
        have K2 := hid ((HM.out.block w.heap.size (.inl (by omega))).trans K2.out)
        have K3 := hid ((HM.out.block (w.heap.size + 1) (.inl (by omega))).trans K3.out)
        have R6 := hid (HM.out.R93 (Nat.le_refl _) R6.out)
        have HB := hid (HM.out.below HB.out (by omega))
        have hCm := hid (Kd.C_below HR.out HB.out)
        clear n20 n21 n22 n30 n31 n32 n50 n51 n52 HP HM
        have n20 : wr.cell? ⟨w.heap.size, 0, none⟩ = some (.int .i64 st) := (cell_of_block K2.out 0).trans rfl
        have n21 : wr.cell? ⟨w.heap.size, 1, none⟩ = some (.bool un) := (cell_of_block K2.out 1).trans rfl
        have n22 : wr.cell? ⟨w.heap.size, 2, none⟩ = some (.slice A l.length c) := (cell_of_block K2.out 2).trans rfl
        have n30 : wr.cell? ⟨w.heap.size + 1, 0, none⟩ = some (.int .u32 tsn) := (cell_of_block K3.out 0).trans rfl
        have n31 : wr.cell? ⟨w.heap.size + 1, 1, none⟩ = some (.int .u16 seq) := (cell_of_block K3.out 1).trans rfl
        have n32 : wr.cell? ⟨w.heap.size + 1, 2, none⟩ = some (.int .i64 (z : Int)) := (cell_of_block K3.out 2).trans rfl
        go_wp2_with (go_at_call 45; refine (refcut_calls st un A c l tsn seq z _ hCm.out hc hz1 hz2 hl).mono ?_)
        rintro e w5 ⟨v7, rfl, hR7, hb5⟩
        obtain ⟨A7, c7, rfl, hc7, hC7⟩ := Kd.R_reads hR7
        have R6 := hid (Kd.R_below R6.out hb5)
        have hC6 := (Kd.R_reads' R6.out).2.2
        have K2 := hid (blk_below K2.out hb5)
        have K3 := hid (blk_below K3.out hb5)
        have HB := hid (HB.out.trans (hb5.mono HB.out.size))
        rw [← HCL.out] at hc7 hC7 ⊢
        clear hR7 hb5 n20 n21 n22 n30 n31 n32
        have n20 : w5.cell? ⟨w.heap.size, 0, none⟩ = some (.int .i64 st) := (cell_of_block K2.out 0).trans rfl
        have n21 : w5.cell? ⟨w.heap.size, 1, none⟩ = some (.bool un) := (cell_of_block K2.out 1).trans rfl
        have n22 : w5.cell? ⟨w.heap.size, 2, none⟩ = some (.slice A l.length c) := (cell_of_block K2.out 2).trans rfl
        have n30 : w5.cell? ⟨w.heap.size + 1, 0, none⟩ = some (.int .u32 tsn) := (cell_of_block K3.out 0).trans rfl
        have n31 : w5.cell? ⟨w.heap.size + 1, 1, none⟩ = some (.int .u16 seq) := (cell_of_block K3.out 1).trans rfl
        have n32 : w5.cell? ⟨w.heap.size + 1, 2, none⟩ = some (.int .i64 (z : Int)) := (cell_of_block K3.out 2).trans rfl
        go_wp2_with (go_at_call 44; refine (weftlinenum_Pieces.calls 1001 A6 c6 cl A7 c7 cl true _ hC6 hc6 hC7 hc7 hpcs.out).mono ?_)
        rintro e w6 ⟨rfl, hb6⟩
        have R6 := hid (Kd.R_below R6.out hb6)
        have hC6 := (Kd.R_reads' R6.out).2.2
        have K2 := hid (blk_below K2.out hb6)
        have K3 := hid (blk_below K3.out hb6)
        have HB := hid (HB.out.trans (hb6.mono HB.out.size))
        clear hb6 hC7 n20 n21 n22 n30 n31 n32
        have n20 : w6.cell? ⟨w.heap.size, 0, none⟩ = some (.int .i64 st) := (cell_of_block K2.out 0).trans rfl
        have n21 : w6.cell? ⟨w.heap.size, 1, none⟩ = some (.bool un) := (cell_of_block K2.out 1).trans rfl
        have n22 : w6.cell? ⟨w.heap.size, 2, none⟩ = some (.slice A l.length c) := (cell_of_block K2.out 2).trans rfl
        have n30 : w6.cell? ⟨w.heap.size + 1, 0, none⟩ = some (.int .u32 tsn) := (cell_of_block K3.out 0).trans rfl
        have n31 : w6.cell? ⟨w.heap.size + 1, 1, none⟩ = some (.int .u16 seq) := (cell_of_block K3.out 1).trans rfl
        have n32 : w6.cell? ⟨w.heap.size + 1, 2, none⟩ = some (.int .i64 (z : Int)) := (cell_of_block K3.out 2).trans rfl
        go_wp2_with (go_at_call 43; refine (frag_Many.calls (l.length : Int) (z : Int) _ _ HMY.out).mono ?_)
        rintro e w7 ⟨rfl, hD⟩
        have hb7 := hD.below
        have R6 := hid (Kd.R_below R6.out hb7)
        have hC6 := (Kd.R_reads' R6.out).2.2
        have K2 := hid (blk_below K2.out hb7)
        have HB := hid (HB.out.trans (hb7.mono HB.out.size))
        clear hb7 hD n20 n21 n22 n30 n31 n32
        go_wp2_with (go_at_call 46; refine (frag_Whole.calls 1001 A6 c6 cl st un l none _ hC6 hc6 HWH.out).mono ?_)
        rintro e w8 ⟨v8, rfl, hR8, hb8⟩
        obtain ⟨A8, c8, rfl, hc8, hC8⟩ := Kd.R_reads hR8
        rw [errW_none]
        have K2 := hid (blk_below K2.out hb8)
        have HB := hid (HB.out.trans (hb8.mono HB.out.size))
        have hCm := Kd.C_below HR.out HB.out
        have zw8 : w.heap.size < w8.heap.size := blk_lt K2.out
        have n20 : w8.cell? ⟨w.heap.size, 0, none⟩ = some (.int .i64 st) := (cell_of_block K2.out 0).trans rfl
        have n21 : w8.cell? ⟨w.heap.size, 1, none⟩ = some (.bool un) := (cell_of_block K2.out 1).trans rfl
        have n22 : w8.cell? ⟨w.heap.size, 2, none⟩ = some (.slice A l.length c) := (cell_of_block K2.out 2).trans rfl
        clear hR8 hb8 hC6
        go_wp2_with (go_at_call 47; refine (messages_calls _ 1 _ 1 [(⟨st, un, l⟩ : S77)] _ ?m1 ?m2).mono ?_)
        case m1 => exact msg_row (Kd.C_alloc (Kd.C_alloc (Kd.C_alloc hC8 _) _) _) hc8 ((cell_old1 _ _ _ (by simp) 0).trans ((cell_new1 _ _ 77 _ (by simp) 0).trans rfl)) ((cell_old1 _ _ _ (by simp) 1).trans ((cell_new1 _ _ 77 _ (by simp) 1).trans rfl)) ((cell_old1 _ _ _ (by simp) 2).trans ((cell_new1 _ _ 77 _ (by simp) 2).trans rfl))
        case m2 => exact msg_row (Kd.C_alloc (Kd.C_alloc (Kd.C_alloc hCm _) _) _) hc ((cell_new1 _ _ 77 _ (by simp) 0).trans rfl) ((cell_new1 _ _ 77 _ (by simp) 1).trans rfl) ((cell_new1 _ _ 77 _ (by simp) 2).trans rfl)
        rintro e w9 ⟨rfl, hDz⟩
        have zz := HB.out.size
        have hfz := hid ((((HB.out.alloc zz _).alloc (by simp; omega) _).alloc (by simp; omega) _).trans (hDz.below.mono (by simp; omega)))
        clear hDz
        go_wp2
        go_ret
        exact ⟨rfl, hfz.out⟩
end Go.Proofs.Ytgbjbmakjilddaa.QFrag
