import Derived.Test.YtidbkkebkgeioaaGreatRp
namespace Go.Proofs.YtidbkkebkgeioaaGreat.En
open Go.ChangeShapes Go.WideShapes Go.ChangeAt Go.RowKit Go.Shelf MK
open Base (hid cell_new1 cell_old1 froz_new1 froz_old1)
open TmA
open TmR (Row Row.below)
attribute [local go_sem] Oper.semAt_some
set_option linter.unusedVariables false
set_option linter.unusedSimpArgs false
/-- The result's cell is there, and nothing that was there has turned. -/
structure St (w W : World) : Prop where
  c : W.cell? ⟨w.heap.size, 0, none⟩ = some (.bool false)
  f : W.frozen? ⟨w.heap.size, 0, none⟩ = false
  b : Below w.heap.size w W
theorem St.lt {w W : World} (h : St w W) : w.heap.size < W.heap.size := lt_of_cell h.c
theorem St.init (w : World) : St w (w.alloc (.cells #[.bool false] 4)) := ⟨cell_new1 _ _ _ _ rfl 0, froz_new1 _ _ _ _ rfl 0, below_alloc (Below.refl _ _) _⟩
theorem St.below {w W W' : World} (h : St w W) (hb : Below W.heap.size W W') : St w W' :=
  ⟨(hb.cell (p := ⟨w.heap.size, 0, none⟩) h.lt).trans h.c, (hb.frozen (p := ⟨w.heap.size, 0, none⟩) h.lt).trans h.f, h.b.trans (hb.mono h.b.size)⟩
theorem St.grown {w W W' : World} {k : Nat} (h : St w W) (hg : W.grownBy W' (some k)) (hk : w.heap.size < k) : St w W' :=
  ⟨hg.cell (a := ⟨w.heap.size, 0, none⟩) h.c (by simp; omega), (World.frozen?_of_block (w := W) (hg.block w.heap.size h.lt (by simp; omega))).trans h.f, h.b.grown hg h.b.size (fun j e => by cases e; omega)⟩
theorem St.set {w W : World} (h : St w W) : (W.setCell ⟨w.heap.size, 0, none⟩ (.bool true)).cell? ⟨w.heap.size, 0, none⟩ = some (.bool true) ∧ Below w.heap.size w (W.setCell ⟨w.heap.size, 0, none⟩ (.bool true)) :=
  ⟨World.cell?_setCell_same _ _ _ h.c, h.b.setCell (by simp) _⟩
set_option maxRecDepth 100000 in
set_option maxHeartbeats 8000000 in
theorem copies_calls (Aa : Option Addr) (ca : Nat) (la : List TmR.Act) (Ab : Option Addr) (cb : Nat) (lb : List TmR.Act) (w : World) (hra : Row w Aa la) (hwa : ∀ p ∈ la, I64 p.f1 ∧ I64 p.f2) (hrb : Row w Ab lb) (hwb : ∀ p ∈ lb, I64 p.f1 ∧ I64 p.f2) :
    Calls Tryz.prog 4 #[.slice Aa la.length ca, .slice Ab lb.length cb] w fun e w' => e = .returned (.bool true) ∧ Below w.heap.size w w' := by
  refine (callsIn_wide (n := 9)).1 ?_
  have f5 : FW.fn 5 := trivial
  have f6 : FW.fn 6 := trivial
  have f7 : FW.fn 7 := trivial
  have f9 : FW.fn 9 := trivial
  have f10 : FW.fn 10 := trivial
  have f11 : FW.fn 11 := trivial
  have f12 : FW.fn 12 := trivial
  have f13 : FW.fn 13 := trivial
  have f14 : FW.fn 14 := trivial
  have f15 : FW.fn 15 := trivial
  have f16 : FW.fn 16 := trivial
  have f17 : FW.fn 17 := trivial
  have f18 : FW.fn 18 := trivial
  have f19 : FW.fn 19 := trivial
  have f32 : FW.fn 32 := trivial
  have HRA := hid hra
  have HWA := hid hwa
  have HRB := hid hrb
  have HWB := hid hwb
  clear hra hwa hrb hwb
  refine callsIn_of_wp_marks Tryz.func4 rfl trivial ?_ rfl
  simp only [Tryz.ntmps4, List.size_toArray, List.length_cons, List.length_nil, Nat.reduceAdd, Nat.reduceSub, Array.replicate_succ, Array.replicate_zero, List.push_toArray, List.append_toArray, List.nil_append, List.cons_append]
  by_cases hq : la.length ≤ 40 ∧ lb.length ≤ 40
  rotate_left
  · by_cases hq1 : la.length ≤ 40
    · have d1 : decide ((40 : Int) < (la.length : Int)) = false := by simp; omega
      have d2 : decide ((40 : Int) < (lb.length : Int)) = true := by simp; omega
      clear hq
      gi_wp2_with (gi_at_call 5; refine (callsIn_wide.2 (TmS.alive_calls _)).mono ?_; rintro e w1 ⟨rfl, hb⟩; have HS := hid (St.below (St.init w) hb); obtain ⟨cc, cf, _⟩ := HS.out; clear hb)
      exact ⟨_, results_cell4 rfl rfl HS.out.set.1, rfl, HS.out.set.2⟩
    · have d1 : decide ((40 : Int) < (la.length : Int)) = true := by simp; omega
      clear hq
      gi_wp2_with (gi_at_call 5; refine (callsIn_wide.2 (TmS.alive_calls _)).mono ?_; rintro e w1 ⟨rfl, hb⟩; have HS := hid (St.below (St.init w) hb); obtain ⟨cc, cf, _⟩ := HS.out; clear hb)
      exact ⟨_, results_cell4 rfl rfl HS.out.set.1, rfl, HS.out.set.2⟩
  obtain ⟨ha, hb⟩ := hq
  have d1 : decide ((40 : Int) < (la.length : Int)) = false := by simp; omega
  have d2 : decide ((40 : Int) < (lb.length : Int)) = false := by simp; omega
  gi_wp2_with (first
    | (gi_at_call 5; refine (callsIn_wide.2 (TmS.alive_calls _)).mono ?_; rintro e w1 ⟨rfl, hb⟩; have HS1 := hid (St.below (St.init w) hb); clear hb)
    | (gi_at_call 6; refine (callsIn_wide.2 (new_calls _)).mono ?_; rintro e w2 ⟨bt, b, rfl, hT, hbt, hb, hB⟩; have HT := hid hT; have HS2 := hid (HS1.out.below hB); have hbw : w.heap.size < b := Nat.lt_of_lt_of_le HS1.out.lt hb; clear hT hB hb hbt HS1)
    | (gi_at_call 7; refine (callsIn_wide.2 (play_calls w2 bt b 0 [] none 0 Aa ca la HT.out (World.ownsRow_nil _ _ _ _) (Nat.le_refl _) (by omega) (HRA.out.below HS2.out.b) HWA.out (by omega))).mono ?_; rintro e w3 ⟨A, c, m, n, rfl, hT3, hO3, hm3, hn3, hG3⟩; have HT3 := hid hT3; have HO3 := hid hO3; have HS3 := hid (HS2.out.grown hG3 hbw); clear hT3 hO3 hG3 HT HS2)
    | (gi_at_call 9; refine (callsIn_wide.2 (copy_calls w3 bt b n m HT3.out)).mono ?_; rintro e w4 ⟨bt2, b2, rfl, hT4, hbt2, hb2, hB4⟩; have HTc := hid hT4; have HT4 := hid (HT3.out.below hB4); have HO4 := hid (Base.ownsRow_later HO3.out hB4); have HS4 := hid (HS3.out.below hB4); have hbw2 : w.heap.size < b2 := Nat.lt_of_lt_of_le HS3.out.lt hb2; have hne : b ≠ b2 := Nat.ne_of_lt (Nat.lt_of_lt_of_le HT3.out.lt.2 hb2); have hne2 : bt ≠ b2 := Nat.ne_of_lt (Nat.lt_of_lt_of_le HT3.out.lt.1 hb2); clear hT4 hB4 hbt2 hb2 HT3 HO3 HS3))
  gi_wp2_with (gi_at_call 7; go_must (refine (callsIn_wide.2 (play_calls w4 bt2 b2 n m A c Ab cb lb HTc.out HO4.out hm3 (by omega) (HRB.out.below HS4.out.b) HWB.out (by omega))).mono ?_; rintro e w5 ⟨A2, c2, m2, n2, rfl, hT5, hO5, hm5, hn5, hG5⟩; have HTc5 := hid hT5; have HOc5 := hid hO5; have HT5 := hid (HT4.out.kept (hG5.block bt HT4.out.lt.1 (fun e => by cases e; exact hne2 rfl)) (hG5.block b HT4.out.lt.2 (fun e => by cases e; exact hne rfl))); have HO5 := hid (own_kept HO4.out HTc.out hG5); have HS5 := hid (HS4.out.grown hG5 hbw2); clear hT5 hO5 hG5 HTc HT4 HO4 HS4))
  have hml : m.length ≤ 1000 := by omega
  have hml2 : m2.length ≤ 1000 := by omega
  clear hm3 hn3 hm5 hn5 hne hne2 hbw hbw2 HRA HRB HWA HWB
  refine (callsIn_wide.2 (stands_calls w5 bt b n m A c HT5.out HO5.out (by omega))).mono ?_
  rintro e w6 ⟨rfl, hB6⟩
  have HT6 := hid (HT5.out.below hB6)
  have HTc6 := hid (HTc5.out.below hB6)
  have HOc6 := hid (Base.ownsRow_later HOc5.out hB6)
  have HS6 := hid (HS5.out.below hB6)
  clear hB6 HT5 HTc5 HOc5 HO5 HS5
  gi_wp2_with fail
  refine (callsIn_wide.2 (stands_calls w6 bt2 b2 n2 m2 A2 c2 HTc6.out HOc6.out (by omega))).mono ?_
  rintro e w7 ⟨rfl, hB7⟩
  have HT7 := hid (HT6.out.below hB7)
  have HS7 := hid (HS6.out.below hB7)
  clear hB7 HT6 HTc6 HOc6 HS6
  gi_wp2_with (gi_at_call 11; refine (callsIn_wide.2 (all_any _ _)).mono ?_; rintro e w' ⟨rfl, rfl⟩)
  generalize hW1 : World.alloc (World.alloc _ _) _ = W1
  have z1 : W1.heap.size = w7.heap.size + 2 := by rw [← hW1]; simp
  have c3 : W1.cell? ⟨w7.heap.size, 0, none⟩ = some (.int .i64 0) := by
    rw [← hW1, cell_old1 _ _ _ (by simp <;> omega), cell_new1 _ _ _ _ rfl]; rfl
  have c4 : W1.cell? ⟨w7.heap.size + 1, 0, none⟩ = some (.pointer (some ⟨bt, 0, none⟩)) := by
    rw [← hW1, cell_new1 _ _ _ _ (by simp <;> omega)]; rfl
  have g3 : W1.frozen? ⟨w7.heap.size, 0, none⟩ = false := by
    rw [← hW1, froz_old1 _ _ _ (by simp <;> omega), froz_new1 _ _ _ _ rfl]
  have hb1 : Below w7.heap.size w7 W1 := by
    rw [← hW1]
    exact ((Below.refl _ w7).alloc (Nat.le_refl _) _).alloc (by simp <;> omega) _
  clear hW1
  have hT1 : Tab W1 bt b n m := HT7.out.below hb1
  have hlt1 := HT7.out.lt
  have HS := hid (HS7.out.below hb1)
  have hfl := HS7.out.lt
  clear hb1 HT7 HS7
  have OWN : ∀ q : Nat, OwnFrom W1.heap.size (fun (pre : List (Int × Int)) W => ((W.cell? ⟨w7.heap.size, 0, none⟩ = some (.int .i64 (pre.length : Nat)) ∧ W.frozen? ⟨w7.heap.size, 0, none⟩ = false) ∧ pre.length = q) ∧ W1.grownBy W (some w7.heap.size)) :=
    fun q => OwnFrom.and (Own.from (fun s A B row hs hg hr => ⟨⟨cell_kept hs.1.1 hg hr, (frozen_kept hs.1.1 hg hr).trans hs.1.2⟩, hs.2⟩) _) (ownFrom_grown _ _ _ (Nat.le_refl _))
  refine range_pre_law (F := FW) rfl (by decide) (gf := 32) (lb := #[.pointer (some ⟨w7.heap.size + 1, 0, none⟩)]) rfl f32 (enters_of Tryz.func32 (by kernel_rfl) rfl)
    (seqAll 8 (by decide) (w7.heap.size + 1) bt b n w7.heap.size m W1 c4 hT1 (by omega) (by omega) (by omega) (by omega) (by omega)) (fun _ _ _ _ _ _ _ h _ _ _ => h) KeepC.trans (keepC_b (Nat.le_refl _)) (Below.refl _ _) (fun _ => rfl)
    (fun pre W => ((W.cell? ⟨w7.heap.size, 0, none⟩ = some (.int .i64 (pre.length : Nat)) ∧ W.frozen? ⟨w7.heap.size, 0, none⟩ = false) ∧ pre.length = 0) ∧ W1.grownBy W (some w7.heap.size))
    (fun pre W => ((W.cell? ⟨w7.heap.size, 0, none⟩ = some (.int .i64 (pre.length : Nat)) ∧ W.frozen? ⟨w7.heap.size, 0, none⟩ = false) ∧ pre.length = 1) ∧ W1.grownBy W (some w7.heap.size)) (OWN 0) (OWN 1) ⟨⟨⟨c3, g3⟩, rfl⟩, World.grownBy.refl _ _⟩ ?a1 ?asg ?body
    (fun W => W.cell? ⟨w7.heap.size, 0, none⟩ = some (.int .i64 (min 1 (m.length : Int))) ∧ W1.grownBy W (some w7.heap.size)) ?hd ?hs ?hend
  case asg =>
    intro lp x W K hK
    gi_wp2
    exact hK
  case hd =>
    rintro ys W rfl ⟨⟨⟨h1, _⟩, h3⟩, h4⟩
    exact ⟨by rw [h1, h3]; rfl, h4⟩
  case hs =>
    rintro ys W hp ⟨⟨⟨h1, _⟩, h3⟩, h4⟩
    have := hp.length_le
    exact ⟨by rw [h1, h3, show min 1 (m.length : Int) = 1 by omega]; rfl, h4⟩
  case body =>
    rintro lp pre ⟨xk, xa⟩ V W hIV hVW hlp hlo hpx
    obtain ⟨⟨⟨h1, h2⟩, h0⟩, h3⟩ := OWN 0 pre V W (some lp) hIV hVW (fun r e => by cases e; exact ⟨hlp, hlo⟩)
    have H3 := hid h3
    have H0 := hid h0
    clear h3 hIV hVW c3 c4 g3 hT1 OWN
    dsimp only
    gi_wp2
    exact ⟨KeepsOthers.setCell _ _ _, rfl, ⟨by
      have hs := cnt_step (x := (xk, xa)) h1 h2
      rw [show (((pre.length : Nat) : Int) + 1) = 1 by rw [h0]; rfl] at hs
      exact hs, by simp [h0]⟩, grown_set H3.out _⟩
  case hend =>
    rintro D W2 hD ⟨t1, hg2⟩ hK
    have HS2 := hid (HS.out.grown hg2 hfl)
    have HK := hid hK
    have hD2 : D < W2.heap.size := (Array.getElem?_eq_some_iff.1 hK).1
    clear c3 c4 g3 hT1 OWN hK HS
    gi_wp2_with (first
      | (gi_at_call 12; refine (callsIn_wide.2 (next_nil _)).mono ?_; rintro e w8 ⟨rfl, hB8⟩; have HB8 := hid hB8; clear hB8)
      | (gi_at_call 13; refine (callsIn_wide.2 (at_nil 1 (by decide) _)).mono ?_; rintro e w9 ⟨rfl, rfl⟩)
      | (gi_at_call 11; refine (callsIn_wide.2 (all_any _ _)).mono ?_; rintro e w' ⟨rfl, rfl⟩))
    have HS8 := hid (HS2.out.below HB8.out)
    have hs8 := HB8.out.size
    have t8 : w8.cell? ⟨w7.heap.size, 0, none⟩ = some (.int .i64 (min 1 (m.length : Int))) := (HB8.out.cell (p := ⟨w7.heap.size, 0, none⟩) (lt_of_cell t1)).trans t1
    have k8 : w8.heap[D]? = some (.deferred (some [])) := (HB8.out.block D hD2).trans HK.out
    clear HB8 HK HS2 t1 hg2
    generalize hW3 : World.alloc _ _ = W3
    have z3 : W3.heap.size = w8.heap.size + 1 := by rw [← hW3]; simp
    have hb3 : Below w8.heap.size w8 W3 := by
      rw [← hW3]
      exact below_alloc (Below.refl _ _) _
    have c5 : W3.cell? ⟨w8.heap.size, 0, none⟩ = some (.pointer none) := by
      rw [← hW3, cell_new1 _ _ _ _ rfl]; rfl
    clear hW3
    have t3 : W3.cell? ⟨w7.heap.size, 0, none⟩ = some (.int .i64 (min 1 (m.length : Int))) := (hb3.cell (p := ⟨w7.heap.size, 0, none⟩) (lt_of_cell t8)).trans t8
    have k3 : W3.heap[D]? = some (.deferred (some [])) := (hb3.block D (by omega)).trans k8
    have HS3 := hid (HS8.out.below hb3)
    have hfl3 := HS8.out.lt
    have htl := lt_of_cell t8
    clear hb3 t8 k8 HS8
    refine range_pre_law (F := FW) rfl (by decide) (gf := 32) (lb := #[.pointer (some ⟨w8.heap.size, 0, none⟩)]) rfl f32 (enters_of Tryz.func32 (by kernel_rfl) rfl)
      (seqNil 8 (by decide) w8.heap.size W3.heap.size W3 c5) (fun _ _ _ _ _ _ _ h _ _ _ => h) KeepC.trans (keepC_b (Nat.le_refl _)) (Below.refl _ _) (fun _ => rfl)
      (fun _ W => W3.grownBy W (some W3.heap.size)) (fun _ _ => False) (ownFrom_grown _ _ _ (Nat.le_refl _)) (fun _ _ _ _ h _ _ => h) (World.grownBy.refl _ _) ?a2 ?asg2 (fun _ _ _ _ _ _ _ _ _ h => h.elim)
      (fun W => W3.grownBy W (some W3.heap.size)) (fun _ _ _ h => h) (fun _ _ _ h => h.elim) ?hend2
    case asg2 =>
      intro lp x W K hK
      gi_wp2
      exact hK
    case hend2 =>
      rintro D2 W4 hD4 hg4 hK4
      have t4 : W4.cell? ⟨w7.heap.size, 0, none⟩ = some (.int .i64 (min 1 (m.length : Int))) := hg4.cell (a := ⟨w7.heap.size, 0, none⟩) t3 (by simp; omega)
      have k4 : W4.heap[D]? = some (.deferred (some [])) := (hg4.block D (by omega) (by simp; omega)).trans k3
      have HS4 := hid (HS3.out.grown hg4 (by omega))
      have HKa := hid k4
      have HKb := hid hK4
      have hD4' : D2 < W4.heap.size := (Array.getElem?_eq_some_iff.1 hK4).1
      have hD3' : D < W4.heap.size := (Array.getElem?_eq_some_iff.1 k4).1
      have hdd : D ≠ D2 := by omega
      clear t3 k3 HS3 hg4 hK4 k4 c5
      gi_wp2_with (first
        | (gi_at_call 15; refine (callsIn_wide.2 (set_nil _ _ _)).mono ?_; rintro e w' ⟨rfl, rfl⟩)
        | (gi_at_call 14; refine (callsIn_wide.2 (is_four _)).mono ?_; rintro e w' ⟨rfl, rfl⟩)
        | (gi_at_call 16; refine (callsIn_wide.2 (move_nil 1 1 (by decide) _)).mono ?_; rintro e w' ⟨rfl, rfl⟩)
        | (gi_at_call 17; refine (callsIn_wide.2 (stop_nil 1 (by decide) _)).mono ?_; rintro e w' ⟨rfl, rfl⟩)
        | (gi_at_call 18; refine (callsIn_wide.2 (due_nil _ _)).mono ?_; rintro e w9 ⟨rfl, hB9⟩; have HB9 := hid hB9; have HS9 := hid (HS4.out.below hB9); obtain ⟨c9, f9', _⟩ := HS9.out; clear hB9)
        | (gi_at_call 19; refine (callsIn_wide.2 (len_nil _)).mono ?_; rintro e w' ⟨rfl, rfl⟩)
        | (gi_at_call 9; refine (callsIn_wide.2 (copy_nil _)).mono ?_; rintro e w' ⟨rfl, rfl⟩))
      have hg5 := grownBy_setCell' w9 w.heap.size (.bool true)
      have hs9 := HB9.out.size
      have hfw := HS9.out.lt
      have k5 : (w9.setCell ⟨w.heap.size, 0, none⟩ (.bool true)).heap[D2]? = some (.deferred (some [])) := (hg5.block D2 (by omega) (by simp; omega)).trans ((HB9.out.block D2 hD4').trans HKb.out)
      have k6 : (w9.setCell ⟨w.heap.size, 0, none⟩ (.bool true)).heap[D]? = some (.deferred (some [])) := (hg5.block D (by omega) (by simp; omega)).trans ((HB9.out.block D hD3').trans HKa.out)
      obtain ⟨wx, hwx⟩ : ∃ wx, wx = w9.setCell ⟨w.heap.size, 0, none⟩ (.bool true) := ⟨_, rfl⟩
      have hfin := HS9.out.set
      have hsx := hg5.size
      rw [← hwx] at k5 k6 hfin hsx ⊢
      have hg6 := grownBy_putObj' wx D2 (.deferred none)
      have k7 : (wx.putObj D2 (.deferred none)).heap[D]? = some (.deferred (some [])) := (hg6.block D (by omega) (by simp; omega)).trans k6
      have hg7 := grownBy_putObj' (wx.putObj D2 (.deferred none)) D (.deferred none)
      have hs6 := hg6.size
      have hBx := (hfin.2.grown hg6 (by omega) (fun k e => by cases e; omega)).grown hg7 (by omega) (fun k e => by cases e; omega)
      have hcx : ((wx.putObj D2 (.deferred none)).putObj D (.deferred none)).cell? ⟨w.heap.size, 0, none⟩ = some (.bool true) :=
        (World.cell?_of_block (w := wx.putObj D2 (.deferred none)) (a := ⟨w.heap.size, 0, none⟩) (hg7.block _ (by show w.heap.size < _; omega) (by simp; omega))).trans ((World.cell?_of_block (w := wx) (a := ⟨w.heap.size, 0, none⟩) (hg6.block _ (by show w.heap.size < _; omega) (by simp; omega))).trans hfin.1)
      refine ⟨by simp, .inl ⟨_, _, rfl, run_takeDeferred k5, ?_⟩⟩
      refine ⟨by simp, .inl ⟨_, _, rfl, run_takeDeferred k7, ?_⟩⟩
      exact ⟨_, results_cell4 rfl rfl hcx, rfl, hBx⟩
end Go.Proofs.YtidbkkebkgeioaaGreat.En
