import Derived.Test.YthoammfpjheodaaRmCy
namespace Go.Proofs.Ythoammfpjheodaa.Rz
open Go.ChangeShapes Go.WideShapes Go.ChangeAt Go.RowKit Go.Shelf MK
open Base (hid cell_new1 cell_old1 froz_new1 froz_old1)
attribute [local go_sem] Oper.semAt_some
set_option linter.unusedVariables false
set_option linter.unusedSimpArgs false
set_option maxRecDepth 100000
/-! Cut, the way through (printed by rmcz.py) -/
set_option maxHeartbeats 4000000 in
theorem cut_true (st : Int) (ad : Addr) (c : Nat) (x : List Int) (tsn seq : Int) (z : Nat) (w : World) (hx : Txt w (some ad) x) (hc : x.length ≤ c) (hg : goodN st x.length = true) (hz : 1 ≤ z ∧ z ≤ 64) :
    CallsIn FW 9 Try.prog 12 #[.agg #[.int .i64 st, .bool true, .slice (some ad) x.length c], stV tsn seq z] w fun e w' => ∃ A' c' L, e = .returned (.tuple #[.slice A' L.length c', .nilIface]) ∧ Row w' w.heap.size A' c' L ∧ (∀ q ∈ L, w'.ownsRow w.heap.size 5 1 (.slice q.A q.x.length q.c) q.x.length (q.x.map (.int .u8))) ∧ L.map core = cutL st true x tsn seq z ∧ Below w.heap.size w w' := by
  obtain ⟨i0, hi, hi0, hi1, hi2⟩ := info_parts info40
  have hgg := hg
  unfold goodN at hgg
  simp only [Bool.and_eq_true, decide_eq_true_eq] at hgg
  have hst : IntKind.u16.wrap st = st := by
    have h : ∀ y, IntKind.u16.wrap y = y % 65536 := fun _ => rfl
    rw [h]; omega
  have HX := hid hx
  have hgc : ∀ X, Calls Try.prog 42 #[.agg #[.int .i64 st, .bool true, .slice (some ad) x.length c]] X fun e w' => e = .returned (.bool true) ∧ Below X.heap.size X w' := fun X => by
    have := good_calls st true (some ad) x.length c X
    rw [hg] at this
    exact this
  have hw : (decide ((1 : Int) ≤ (z : Int)) && decide ((z : Int) ≤ 64)) = true := by
    rw [Bool.and_eq_true, decide_eq_true_eq, decide_eq_true_eq]
    omega
  have HGC := hid hgc
  have HWI := hid hw
  clear hx hgc hw hg
  unfold stV
  have f42 : FW.fn 42 := trivial
  have f43 : FW.fn 43 := trivial
  have f44 : FW.fn 44 := trivial
  have f45 : FW.fn 45 := trivial
  have f46 : FW.fn 46 := trivial
  have f89 : FW.fn 89 := trivial
  refine callsIn_of_wp_marks Try.func12 rfl trivial ?_ rfl
  simp only [Try.ntmps12, List.size_toArray, List.length_cons, List.length_nil, Nat.reduceAdd, Nat.reduceSub, Array.replicate_succ, Array.replicate_zero, List.push_toArray, List.append_toArray, List.nil_append, List.cons_append]
  obtain ⟨W0, hW0⟩ : ∃ W0 : World, W0 = (w.alloc (.cells #[.int .i64 st, .bool true, .slice (some ad) x.length c] 34)).alloc (.cells #[.int .u32 tsn, .int .u16 seq, .int .i64 (z : Int)] 26) := ⟨_, rfl⟩
  have z0 : W0.heap.size = w.heap.size + 2 := by rw [hW0]; simp
  have hB0 : Below w.heap.size w W0 := by rw [hW0]; exact below_alloc (below_alloc (Below.refl _ _) _) _
  have k1 : W0.cell? ⟨w.heap.size + 1, 2, none⟩ = some (.int .i64 (z : Int)) := by rw [hW0, cell_new1 _ _ _ _ (by simp)]; rfl
  have k2 : W0.cell? ⟨w.heap.size + 1, 0, none⟩ = some (.int .u32 tsn) := by rw [hW0, cell_new1 _ _ _ _ (by simp)]; rfl
  have k3 : W0.cell? ⟨w.heap.size + 1, 1, none⟩ = some (.int .u16 seq) := by rw [hW0, cell_new1 _ _ _ _ (by simp)]; rfl
  obtain ⟨k4, k5, k6, kf⟩ : MB W0 w.heap.size st true (some ad) x.length c := by rw [hW0]; exact (MB.new w st true (some ad) x.length c).below (below_alloc (Below.refl _ _) _)
  have y2 : w.heap.size < W0.heap.size := by omega
  have y3 : w.heap.size + 1 < W0.heap.size := by omega
  have hW := hid hW0
  clear hW0 kf
  gi_wp2_with (first
    | (gi_at_call 42; go_loud (rw [← hW.out]; refine (callsIn_wide.2 (HGC.out _)).mono ?_; rintro e W1 ⟨rfl, hb⟩; have hz1' := hb.size; replace k1 := (hb.cell (p := ⟨w.heap.size + 1, 2, none⟩) y3).trans k1; replace k2 := (hb.cell (p := ⟨w.heap.size + 1, 0, none⟩) y3).trans k2; replace k3 := (hb.cell (p := ⟨w.heap.size + 1, 1, none⟩) y3).trans k3; replace k4 := (hb.cell (p := ⟨w.heap.size, 0, none⟩) y2).trans k4; replace k5 := (hb.cell (p := ⟨w.heap.size, 1, none⟩) y2).trans k5; replace k6 := (hb.cell (p := ⟨w.heap.size, 2, none⟩) y2).trans k6; replace hb := hid hb; have y0 : w.heap.size < W1.heap.size := (by omega); have y1 : w.heap.size + 1 < W1.heap.size := (by omega)))
    | (gi_at_call 43; refine (callsIn_wide.2 (within_calls' _ _ _ _ HWI.out)).mono ?_; rintro e w' ⟨rfl, rfl⟩)
    | (gi_at_call 44; refine (callsIn_wide.2 (chunk_any _ _ _ _ (by omega) _)).mono ?_; rintro e w' ⟨rfl, rfl⟩))
  try rw [hst]
  have hb' := hb.out
  obtain ⟨f, hf⟩ : ∃ f, W1.heap.size = f := ⟨_, rfl⟩
  obtain ⟨W2, hW2⟩ : ∃ W2 : World, W2 = (((W1.alloc (.cells #[.int .u32 tsn, .int .u16 st, .int .u16 0, .bool false, .bool false, .bool true, .slice none 0 0] 40)).alloc (.cells #[.slice none 0 0] 31)).alloc (.cells #[.slice (some ad) x.length c] 32)).alloc (.cells #[.int .i64 (z : Int)] 3) := ⟨_, rfl⟩
  rw [← hW2, hf]
  have z2 : W2.heap.size = f + 4 := by rw [hW2]; simp; omega
  have m0 : ∀ j, W2.cell? ⟨f, j, none⟩ = #[Value.int .u32 tsn, .int .u16 st, .int .u16 0, .bool false, .bool false, .bool true, .slice none 0 0][j]? := by
    intro j
    rw [hW2, cell_old1 _ _ _ (by simp; omega), cell_old1 _ _ _ (by simp; omega), cell_old1 _ _ _ (by simp; omega), cell_new1 _ _ _ _ hf.symm]
  have m1 : W2.cell? ⟨f + 1, 0, none⟩ = some (.slice none 0 0) := by
    rw [hW2, cell_old1 _ _ _ (by simp; omega), cell_old1 _ _ _ (by simp; omega), cell_new1 _ _ _ _ (by simp; omega)]; rfl
  have m1f : W2.frozen? ⟨f + 1, 0, none⟩ = false := by
    rw [hW2, froz_old1 _ _ _ (by simp; omega), froz_old1 _ _ _ (by simp; omega), froz_new1 _ _ _ _ (by simp; omega)]
  have m2 : W2.cell? ⟨f + 2, 0, none⟩ = some (.slice (some ad) x.length c) := by
    rw [hW2, cell_old1 _ _ _ (by simp; omega), cell_new1 _ _ _ _ (by simp; omega)]; rfl
  have m3 : W2.cell? ⟨f + 3, 0, none⟩ = some (.int .i64 (z : Int)) := by
    rw [hW2, cell_new1 _ _ _ _ (by simp; omega)]; rfl
  have hB2 : Below W1.heap.size W1 W2 := by
    rw [hW2]
    exact below_alloc (below_alloc (below_alloc (below_alloc (Below.refl _ W1) _) _) _) _
  have m4 : W2.cell? ⟨w.heap.size + 1, 0, none⟩ = some (.int .u32 tsn) := (hB2.cell (p := ⟨w.heap.size + 1, 0, none⟩) y1).trans k2
  have HBW : Hid (Below w.heap.size w W2) := hid (hB0.trans ((hb'.mono (by omega)).trans (hB2.mono (by omega))))
  clear hW2 hB2 k1 k2 k3 k4 k5 k6 hW hb hb' hB0 z0 y2 y3 hz1'
  refine wpIn_rangeFunc_brk rfl (by decide) (gf := 89) (lb := #[.pointer (some ⟨f + 1 + 1, 0, none⟩), .pointer (some ⟨f + 1 + 1 + 1, 0, none⟩)]) rfl f89 (enters_of Try.func89 (by kernel_rfl) rfl)
    (chunk_stops 8 (by decide) (f + 2) (f + 3) (f + 1) W2.heap.size ad x.length c z (by omega) (by omega) (by omega) hc W2 (by omega) (by omega) (by omega) (by omega) (Nat.le_refl _) m2 m3) Keep.trans (keepK_b (Nat.le_refl _)) (Below.refl _ _) (fun _ => rfl)
    (fun pre W => CutI st true 0 x tsn z f pre W ∧ W2.grownBy W (some (f + 1)))
    (fun _ _ => False)
    (OwnFrom.and (Own.from (fun s A B row hs hg hr => hs.other hg hr) _) (ownFrom_grown _ _ _ (Nat.le_refl _)))
    (fun _ _ _ _ h _ _ => h)
    ⟨⟨[], none, 0, rfl, m1, m1f, ⟨by decide, .inl ⟨rfl, rfl⟩⟩, fun q hq => by cases hq⟩, ⟨rfl, rfl, rfl, Nat.le_refl _, fun _ _ _ => rfl⟩⟩ ?a1 ?asg ?body
    (fun W => CutI st true 0 x tsn z f (List.range (parts x.length z)) W ∧ W2.grownBy W (some (f + 1))) ?hd (fun _ _ _ h => h.elim) ?hend
  case asg =>
    intro lp y W K hK
    gi_wp2
    exact hK
  case hd =>
    rintro ys W rfl h
    exact h
  case body =>
    rintro lp pre y W ⟨⟨L, a2, c2, hcore, h1, h2, h3, h5⟩, h4⟩ hpre
    have hlen := CutI.len hcore
    have z4 := h4.size
    have hBW : Below w.heap.size w W := grown_lower h4 HBW.out (by omega) (by omega)
    have q0 : W.cell? ⟨w.heap.size + 1, 0, none⟩ = some (.int .u32 tsn) := h4.cell (a := ⟨w.heap.size + 1, 0, none⟩) m4 (by simp; omega)
    have p0 : W.cell? ⟨f, 0, none⟩ = some (.int .u32 tsn) := h4.cell (a := ⟨f, 0, none⟩) (m0 0) (by simp)
    have p1 : W.cell? ⟨f, 1, none⟩ = some (.int .u16 st) := h4.cell (a := ⟨f, 1, none⟩) (m0 1) (by simp)
    have p2 : W.cell? ⟨f, 2, none⟩ = some (.int .u16 0) := h4.cell (a := ⟨f, 2, none⟩) (m0 2) (by simp)
    have p3 : W.cell? ⟨f, 3, none⟩ = some (.bool false) := h4.cell (a := ⟨f, 3, none⟩) (m0 3) (by simp)
    have p4 : W.cell? ⟨f, 4, none⟩ = some (.bool false) := h4.cell (a := ⟨f, 4, none⟩) (m0 4) (by simp)
    have p5 : W.cell? ⟨f, 5, none⟩ = some (.bool true) := h4.cell (a := ⟨f, 5, none⟩) (m0 5) (by simp)
    have p6 : W.cell? ⟨f, 6, none⟩ = some (.slice none 0 0) := h4.cell (a := ⟨f, 6, none⟩) (m0 6) (by simp)
    have HO := hid h3
    have HP := hid h5
    have H4 := hid h4
    have HBX := hid hBW
    have HC := hid hcore
    have hpl : L.length < 400 := by have := parts_le x.length z (by omega); omega
    have HLN := hid hlen
    clear hlen
    have b0 : w.heap.size + 1 < W.heap.size := by omega
    have b1 : f < W.heap.size := by omega
    have b2 : f + 1 < W.heap.size := by omega
    rw [chunkV_eq]
    clear h3 h5 h4 hBW m0 m1 m1f m2 m3 m4 hcore
    obtain ⟨T, hT⟩ : ∃ T, (x.drop (y * z)).take z = T := ⟨_, rfl⟩
    have hTl : T.length ≤ 64 := by rw [← hT]; simp; omega
    have HTC : Hid (Txt w (some (ad.add (y * z))) T) := hid (hT ▸ HX.out.part (y * z) z)
    rw [hT]
    have HT := hid hT
    clear hT
    gi_wp2_with (first
      | (gi_at_call 45; go_loud (refine (CallsIn.inRound lp (callsIn_wide.2 (step_calls _ _ _))).mono ?_); rintro e w_ ⟨rfl, rfl⟩)
      | (gi_at_call 46; refine (CallsIn.inRound lp (callsIn_wide.2 (clone_calls (some (ad.add (y * z))) T.length T _ (by omega) ((HTC.out.below HBX.out).below (below_alloc (Below.refl _ _) _)) (fun e => by cases e)))).mono ?_; rintro e W5 ⟨A6, c6, rfl, R6, hb6⟩; have g5 : W.heap.size < (W.alloc (.cells #[.int .u32 tsn, .int .u16 st, .int .u16 0, .bool false, .bool false, .bool true, .slice none 0 0] 40)).heap.size := (by rw [Base_size]; omega); have g6 := hb6.size; have g7 : f + 1 < (W.alloc (.cells #[.int .u32 tsn, .int .u16 st, .int .u16 0, .bool false, .bool false, .bool true, .slice none 0 0] 40)).heap.size := (by rw [Base_size]; omega); have u0 : W5.cell? ⟨W.heap.size, 0, none⟩ = some (.int .u32 tsn) := (hb6.cell (p := ⟨W.heap.size, 0, none⟩) g5).trans (by rw [cell_new1 _ _ _ _ rfl]; rfl); have u1 : W5.cell? ⟨W.heap.size, 1, none⟩ = some (.int .u16 st) := (hb6.cell (p := ⟨W.heap.size, 1, none⟩) g5).trans (by rw [cell_new1 _ _ _ _ rfl]; rfl); have u2 : W5.cell? ⟨W.heap.size, 2, none⟩ = some (.int .u16 0) := (hb6.cell (p := ⟨W.heap.size, 2, none⟩) g5).trans (by rw [cell_new1 _ _ _ _ rfl]; rfl); have u3 : W5.cell? ⟨W.heap.size, 3, none⟩ = some (.bool false) := (hb6.cell (p := ⟨W.heap.size, 3, none⟩) g5).trans (by rw [cell_new1 _ _ _ _ rfl]; rfl); have u4 : W5.cell? ⟨W.heap.size, 4, none⟩ = some (.bool false) := (hb6.cell (p := ⟨W.heap.size, 4, none⟩) g5).trans (by rw [cell_new1 _ _ _ _ rfl]; rfl); have u5 : W5.cell? ⟨W.heap.size, 5, none⟩ = some (.bool true) := (hb6.cell (p := ⟨W.heap.size, 5, none⟩) g5).trans (by rw [cell_new1 _ _ _ _ rfl]; rfl); have u6 : W5.cell? ⟨W.heap.size, 6, none⟩ = some (.slice none 0 0) := (hb6.cell (p := ⟨W.heap.size, 6, none⟩) g5).trans (by rw [cell_new1 _ _ _ _ rfl]; rfl); have uo := (hb6.cell (p := ⟨f + 1, 0, none⟩) g7).trans ((cell_old1 W _ _ b2 _).trans h1); have uf := (hb6.frozen (p := ⟨f + 1, 0, none⟩) g7).trans ((froz_old1 W _ _ b2 _).trans h2); have fz0 : W5.frozen? ⟨W.heap.size, 0, none⟩ = false := (hb6.frozen (p := ⟨W.heap.size, 0, none⟩) g5).trans (froz_new1 _ _ _ _ rfl _); have fz6 : W5.frozen? ⟨W.heap.size, 6, none⟩ = false := (hb6.frozen (p := ⟨W.heap.size, 6, none⟩) g5).trans (froz_new1 _ _ _ _ rfl _); have HB6 := hid hb6; have HR6 := hid R6; clear hb6 R6 h1 h2)
      | (gi_at_builtin; refine wpListIn_append_own_at _ rfl _ _ 31 rfl (f + 4) 40 i0 zP 7 40 Try.underlying31 hi hi0 hi1 hi2 rfl (by decide) _ L.length (cellsP L) rfl ?ho ⟨W5.heap.size, 0, none⟩ 1 1 (cellsP [⟨step tsn L.length, st, 0, false, false, true, A6, T, c6⟩]) rfl rfl ?news ?one ?c3 ?c4 ?c5 ?_))
    case ho => exact Base.ownsRow_later (show W.ownsRow (f + 4) 40 7 (.slice a2 L.length c2) L.length (cellsP L) from HO.out) (B6 HB6.out)
    case news => exact fun j u h => new7' ((W5.setCell ⟨W.heap.size, 0, none⟩ (.int .u32 (step tsn L.length))).setCell ⟨W.heap.size, 6, none⟩ (.slice A6 T.length c6)) ⟨step tsn L.length, st, 0, false, false, true, A6, T, c6⟩ W5.heap.size j u (by simp) h
    case one => exact cellsP_one _
    case c3 => unfold maxLen; omega
    case c4 => omega
    case c5 => simp; omega
    have hnb : ∀ b, (Value.slice a2 L.length c2).ownBlock = some b → f + 4 ≤ b ∧ b < W.heap.size := fun b hb => own_base HO.out hb
    intro v' w' hown hgr hat
    obtain ⟨a3, c3, rfl, _⟩ := Base.slice_of_row hown
    have s5 : W.heap.size + 1 ≤ W5.heap.size := by have := HB6.out.size; simpa using this
    have hB6 := B6 (u6 := .slice A6 T.length c6) (u0 := .int .u32 (step tsn L.length)) (cs := #[.int .u32 (step tsn L.length), .int .u16 st, .int .u16 0, .bool false, .bool false, .bool true, .slice A6 T.length c6]) (t := 40) HB6.out
    have ux : w'.cell? ⟨f + 1, 0, none⟩ = some (.slice a2 L.length c2) := hgr.cell (a := ⟨f + 1, 0, none⟩) (by rw [cell_old1 _ _ _ (by simp; omega)]; rw [World.cell?_setCell_far _ _ _ _ (show W.heap.size ≠ f + 1 by omega), World.cell?_setCell_far _ _ _ _ (show W.heap.size ≠ f + 1 by omega)]; exact uo) (by intro e; have := (hnb _ e.symm).1; exact absurd this (by show ¬ f + 4 ≤ f + 1; omega))
    have uy : w'.frozen? ⟨f + 1, 0, none⟩ = false := by
      rw [World.frozen?_of_block (hgr.block (f + 1) (by simp; omega) (by intro e; have := (hnb _ e.symm).1; omega)), froz_old1 _ _ _ (by simp; omega), World.frozen?_setCell, World.frozen?_setCell]; exact uf
    have hro := Base.ownsRow_later (show W.ownsRow (f + 4) 40 7 (.slice a2 L.length c2) L.length (cellsP L) from HO.out) hB6
    have hrow : Row w' (f + 4) a3 c3 (L ++ [⟨step tsn L.length, st, 0, false, false, true, A6, T, c6⟩]) := by
      unfold Row
      rw [cellsP_app, List.length_append]
      exact hown
    have hnew := Base.ownsRow_later (ownsRow_setCell_below (ownsRow_setCell_below HR6.out (show W.heap.size < _ by rw [Base_size]; omega) (.int .u32 (step tsn L.length)) (a := ⟨W.heap.size, 0, none⟩)) (show W.heap.size < _ by rw [Base_size]; omega) (.slice A6 T.length c6) (a := ⟨W.heap.size, 6, none⟩)) (below_alloc (Below.refl _ _) (.cells #[.int .u32 (step tsn L.length), .int .u16 st, .int .u16 0, .bool false, .bool false, .bool true, .slice A6 T.length c6] 40))
    have htx : ∀ q ∈ L ++ [(⟨step tsn L.length, st, 0, false, false, true, A6, T, c6⟩ : Pm)], w'.ownsRow (f + 4) 5 1 (.slice q.A q.x.length q.c) q.x.length (q.x.map (.int .u8)) := by
      intro q hq
      rcases List.mem_append.1 hq with hq | hq
      · have := Base.ownsRow_later (HP.out q hq) hB6
        exact this.kept hgr (own_types this hro (by decide))
      · obtain rfl := List.mem_singleton.1 hq
        exact own_low (hnew.kept hgr (own_types hnew hro (by decide))) (by rw [Base_size]; omega)
    have hcr : (L ++ [(⟨step tsn L.length, st, 0, false, false, true, A6, T, c6⟩ : Pm)]).map core = rawL st true 0 x tsn z (pre ++ [y]) := by
      rw [rawL_snoc, List.map_append, HC.out, List.map_cons, List.map_nil]
      unfold rawC core
      rw [HLN.out, HT.out]
    have hk1 : Keep (f + 1) W2.heap.size W w' := (Keep.of_below (hB6.mono (by omega))).trans ⟨hgr.size, fun b hb hne => hgr.block b (by simp; omega) (fun e => by have := (hnb b e.symm).1; omega)⟩
    have hk2 : KeepsOthers W w' := (keeps_below hB6).trans (KeepsOthers.of_grownBy hgr (fun j o e h => own_cells hro j o e h))
    have hgw := grown_chain H4.out hB6 hgr (fun k e => by have := (hnb k e).1; omega) (.slice a3 (L.length + 1) c3)
    have HF := hid (And.intro hrow (And.intro htx (And.intro hcr (And.intro hk1 (And.intro hk2 hgw)))))
    clear hrow htx hcr hk1 hk2 hgw hnew hro hB6 hown hgr hat
    gi_wp2
    obtain ⟨e1, e1', e1'', e2, e3, e4⟩ := HF.out
    have e5 : W2.heap.size ≤ w'.heap.size := by have := e2.size; omega
    exact ⟨e3.trans (KeepsOthers.setCell _ _ _), e2.trans (Keep.of_grown (grownBy_setCell' _ _ _) e5), ⟨_, a3, c3, e1'', by rw [World.cell?_setCell_same' _ _ _ (by rw [ux]; rfl)]; simp, by rw [World.frozen?_setCell]; exact uy, ownsRow_setCell_below e1 (show f + 1 < f + 4 by omega) _, fun q hq => ownsRow_setCell_below (e1' q hq) (show f + 1 < f + 4 by omega) _⟩, e4⟩
  case hend =>
    rintro D W hD ⟨⟨L, A3, c3, hcore, h1, h2, h3, h5⟩, h4⟩ hK
    have hN : 0 < parts x.length z := (parts_lt (by omega)).2 (by omega)
    obtain ⟨M, hM⟩ : ∃ M, parts x.length z = M + 1 := ⟨parts x.length z - 1, by omega⟩
    have hMl : M < 400 := by have := parts_le x.length z (by omega); omega
    rw [hM] at hcore
    have hll : L.length = M + 1 := by
      have := CutI.len hcore
      rwa [List.length_range] at this
    obtain ⟨g, rfl, hg1, hg2, hcA⟩ := h3.at 0 (by omega)
    obtain ⟨g', e', -, -, hcB⟩ := h3.at M (by omega)
    cases e'
    obtain ⟨bA, cA⟩ : ∃ b : Bool, W.cell? ⟨g, 3, none⟩ = some (.bool b) := by
      have := hcA 3 (by decide)
      rw [show 0 * 7 + 3 = 3 by omega] at this
      exact ⟨_, this⟩
    obtain ⟨bB, cB⟩ : ∃ b : Bool, W.cell? ⟨g, M * 7 + 4, none⟩ = some (.bool b) := ⟨_, hcB 4 (by decide)⟩
    have fA : W.frozen? ⟨g, 3, none⟩ = false := World.ownsRow.frozenAt h3 3
    have fB : W.frozen? ⟨g, M * 7 + 4, none⟩ = false := World.ownsRow.frozenAt h3 (M * 7 + 4)
    rw [hll] at h1
    have H3 := hid h3
    have H4 := hid h4
    have H5 := hid h5
    have HLL := hid hll
    have HCO := hid hcore
    have hgf1 : g ≠ f + 1 := by omega
    have HK := hid hK
    have HM := hid hM
    clear h3 h4 h5 hcA hcB m0 m1 m1f m2 m3 m4 hK hM hN hll hcore
    gi_wp2
    refine wpIn_wide.2 ?_
    go_region
    have hR1 := H3.out.mark 0 3 (.bool true) (fun p => { p with b := true }) (by decide) (fun p _ => rfl) (by rw [HLL.out]; omega)
    rw [show 0 * 7 + 3 = 3 by omega] at hR1
    have hR2 := hR1.1.mark M 4 (.bool true) (fun p => { p with e := true }) (by decide) (fun p _ => rfl) (by rw [List.length_modify, HLL.out]; omega)
    have hT1 : ∀ q ∈ L, ((W.setCell ⟨g, 3, none⟩ (.bool true)).setCell ⟨g, M * 7 + 4, none⟩ (.bool true)).ownsRow (f + 4) 5 1 (.slice q.A q.x.length q.c) q.x.length (q.x.map (.int .u8)) := fun q hq => by
      have hne : (Value.slice q.A q.x.length q.c).ownBlock ≠ some g := by
        rcases own_types (H5.out q hq) H3.out (by decide) with e | e
        · rw [e]; exact fun e => by cases e
        · exact e
      exact ownsRow_setCell_other (ownsRow_setCell_other (H5.out q hq) hne _) hne _
    have hnd : D ≠ g := by
      intro e
      subst e
      have := own_cells H3.out D _ rfl HK.out
      cases this
    have hR3 := Base.ownsRow_later hR2.1 (Below.drew (Below.refl _ _))
    obtain ⟨W3, hW3⟩ : ∃ W3, W3 = ((W.setCell ⟨g, 3, none⟩ (.bool true)).setCell ⟨g, M * 7 + 4, none⟩ (.bool true)).drew := ⟨_, rfl⟩
    have hT3 : ∀ q ∈ L, W3.ownsRow (f + 4) 5 1 (.slice q.A q.x.length q.c) q.x.length (q.x.map (.int .u8)) := fun q hq => by
      rw [hW3]
      exact Base.ownsRow_later (hT1 q hq) (Below.drew (Below.refl _ _))
    rw [← hW3] at hR3 ⊢
    have c1 : W3.cell? ⟨f + 1, 0, none⟩ = some (.slice (some ⟨g, 0, none⟩) (M + 1) c3) := by
      rw [hW3, World.cell?_drew, World.cell?_setCell_far _ _ _ _ hgf1, World.cell?_setCell_far _ _ _ _ hgf1]; exact h1
    have hD3 : W3.heap[D]? = some (.deferred (some [])) := by
      rw [hW3]
      show ((W.setCell ⟨g, 3, none⟩ (.bool true)).setCell ⟨g, M * 7 + 4, none⟩ (.bool true)).heap[D]? = _
      rw [Below.heap_setCell _ _ _ _ hnd, Below.heap_setCell _ _ _ _ hnd]; exact HK.out
    have hB3 : Below w.heap.size w W3 := by
      rw [hW3]
      have b1 : Below w.heap.size w W := grown_lower H4.out HBW.out (by omega) (by omega)
      have b2 := b1.grown hR1.2 b1.size (fun k e => by cases e; omega)
      have b3 := b2.grown hR2.2 b2.size (fun k e => by cases e; omega)
      exact b3.drew
    have hend := hid (hB3.trans (belowK_b (w := w) (Nat.le_refl _) W3 D _ (.deferred none) (by omega) hD3 rfl rfl))
    have HE : Hid (Row W3 (f + 4) (some ⟨g, 0, none⟩) c3 (markL L M)) := hid hR3
    have HT3 := hid hT3
    have HD3 := hid hD3
    have HMC := hid (mark_core st true 0 seq x tsn z M L HM.out HCO.out rfl)
    have HML : Hid ((markL L M).length = M + 1) := hid (by rw [markL_len]; exact HLL.out)
    clear hR1 hR2 hR3 hW3 hD3 hB3 cA cB fA fB h1 h2 hgf1 hnd H3 H4 HK hT1 hT3
    gi_wp2
    refine ⟨by simp, .inl ⟨_, _, rfl, run_takeDeferred HD3.out, ?_⟩⟩
    have hoth : ∀ k, some D = some k → ∃ o : Obj, W3.heap[k]? = some o ∧ o.isCells = false := fun k e => by cases e; exact ⟨_, HD3.out, rfl⟩
    refine ⟨_, results_tmp2 rfl _ _ _, some ⟨g, 0, none⟩, c3, markL L M, (by rw [HML.out]; rfl), own_low (own_other HE.out (grownBy_putObj' W3 D (.deferred none)) hoth) (by omega), fun q hq => ?_, HMC.out, hend.out⟩
    obtain ⟨p, hp, e1, e2, e3⟩ := markL_mem L M q hq
    rw [e1, e2, e3]
    exact own_low (own_other (HT3.out p hp) (grownBy_putObj' W3 D (.deferred none)) hoth) (by omega)
set_option maxHeartbeats 4000000 in
theorem cut_false (st : Int) (ad : Addr) (c : Nat) (x : List Int) (tsn seq : Int) (z : Nat) (w : World) (hx : Txt w (some ad) x) (hc : x.length ≤ c) (hg : goodN st x.length = true) (hz : 1 ≤ z ∧ z ≤ 64) :
    CallsIn FW 9 Try.prog 12 #[.agg #[.int .i64 st, .bool false, .slice (some ad) x.length c], stV tsn seq z] w fun e w' => ∃ A' c' L, e = .returned (.tuple #[.slice A' L.length c', .nilIface]) ∧ Row w' w.heap.size A' c' L ∧ (∀ q ∈ L, w'.ownsRow w.heap.size 5 1 (.slice q.A q.x.length q.c) q.x.length (q.x.map (.int .u8))) ∧ L.map core = cutL st false x tsn seq z ∧ Below w.heap.size w w' := by
  obtain ⟨i0, hi, hi0, hi1, hi2⟩ := info_parts info40
  have hgg := hg
  unfold goodN at hgg
  simp only [Bool.and_eq_true, decide_eq_true_eq] at hgg
  have hst : IntKind.u16.wrap st = st := by
    have h : ∀ y, IntKind.u16.wrap y = y % 65536 := fun _ => rfl
    rw [h]; omega
  have HX := hid hx
  have hgc : ∀ X, Calls Try.prog 42 #[.agg #[.int .i64 st, .bool false, .slice (some ad) x.length c]] X fun e w' => e = .returned (.bool true) ∧ Below X.heap.size X w' := fun X => by
    have := good_calls st false (some ad) x.length c X
    rw [hg] at this
    exact this
  have hw : (decide ((1 : Int) ≤ (z : Int)) && decide ((z : Int) ≤ 64)) = true := by
    rw [Bool.and_eq_true, decide_eq_true_eq, decide_eq_true_eq]
    omega
  have HGC := hid hgc
  have HWI := hid hw
  clear hx hgc hw hg
  unfold stV
  have f42 : FW.fn 42 := trivial
  have f43 : FW.fn 43 := trivial
  have f44 : FW.fn 44 := trivial
  have f45 : FW.fn 45 := trivial
  have f46 : FW.fn 46 := trivial
  have f89 : FW.fn 89 := trivial
  refine callsIn_of_wp_marks Try.func12 rfl trivial ?_ rfl
  simp only [Try.ntmps12, List.size_toArray, List.length_cons, List.length_nil, Nat.reduceAdd, Nat.reduceSub, Array.replicate_succ, Array.replicate_zero, List.push_toArray, List.append_toArray, List.nil_append, List.cons_append]
  obtain ⟨W0, hW0⟩ : ∃ W0 : World, W0 = (w.alloc (.cells #[.int .i64 st, .bool false, .slice (some ad) x.length c] 34)).alloc (.cells #[.int .u32 tsn, .int .u16 seq, .int .i64 (z : Int)] 26) := ⟨_, rfl⟩
  have z0 : W0.heap.size = w.heap.size + 2 := by rw [hW0]; simp
  have hB0 : Below w.heap.size w W0 := by rw [hW0]; exact below_alloc (below_alloc (Below.refl _ _) _) _
  have k1 : W0.cell? ⟨w.heap.size + 1, 2, none⟩ = some (.int .i64 (z : Int)) := by rw [hW0, cell_new1 _ _ _ _ (by simp)]; rfl
  have k2 : W0.cell? ⟨w.heap.size + 1, 0, none⟩ = some (.int .u32 tsn) := by rw [hW0, cell_new1 _ _ _ _ (by simp)]; rfl
  have k3 : W0.cell? ⟨w.heap.size + 1, 1, none⟩ = some (.int .u16 seq) := by rw [hW0, cell_new1 _ _ _ _ (by simp)]; rfl
  obtain ⟨k4, k5, k6, kf⟩ : MB W0 w.heap.size st false (some ad) x.length c := by rw [hW0]; exact (MB.new w st false (some ad) x.length c).below (below_alloc (Below.refl _ _) _)
  have y2 : w.heap.size < W0.heap.size := by omega
  have y3 : w.heap.size + 1 < W0.heap.size := by omega
  have hW := hid hW0
  clear hW0 kf
  gi_wp2_with (first
    | (gi_at_call 42; go_loud (rw [← hW.out]; refine (callsIn_wide.2 (HGC.out _)).mono ?_; rintro e W1 ⟨rfl, hb⟩; have hz1' := hb.size; replace k1 := (hb.cell (p := ⟨w.heap.size + 1, 2, none⟩) y3).trans k1; replace k2 := (hb.cell (p := ⟨w.heap.size + 1, 0, none⟩) y3).trans k2; replace k3 := (hb.cell (p := ⟨w.heap.size + 1, 1, none⟩) y3).trans k3; replace k4 := (hb.cell (p := ⟨w.heap.size, 0, none⟩) y2).trans k4; replace k5 := (hb.cell (p := ⟨w.heap.size, 1, none⟩) y2).trans k5; replace k6 := (hb.cell (p := ⟨w.heap.size, 2, none⟩) y2).trans k6; replace hb := hid hb; have y0 : w.heap.size < W1.heap.size := (by omega); have y1 : w.heap.size + 1 < W1.heap.size := (by omega)))
    | (gi_at_call 43; refine (callsIn_wide.2 (within_calls' _ _ _ _ HWI.out)).mono ?_; rintro e w' ⟨rfl, rfl⟩)
    | (gi_at_call 44; refine (callsIn_wide.2 (chunk_any _ _ _ _ (by omega) _)).mono ?_; rintro e w' ⟨rfl, rfl⟩))
  try rw [hst]
  have hb' := hb.out
  obtain ⟨f, hf⟩ : ∃ f, W1.heap.size = f := ⟨_, rfl⟩
  obtain ⟨W2, hW2⟩ : ∃ W2 : World, W2 = (((W1.alloc (.cells #[.int .u32 tsn, .int .u16 st, .int .u16 seq, .bool false, .bool false, .bool false, .slice none 0 0] 40)).alloc (.cells #[.slice none 0 0] 31)).alloc (.cells #[.slice (some ad) x.length c] 32)).alloc (.cells #[.int .i64 (z : Int)] 3) := ⟨_, rfl⟩
  rw [← hW2, hf]
  have z2 : W2.heap.size = f + 4 := by rw [hW2]; simp; omega
  have m0 : ∀ j, W2.cell? ⟨f, j, none⟩ = #[Value.int .u32 tsn, .int .u16 st, .int .u16 seq, .bool false, .bool false, .bool false, .slice none 0 0][j]? := by
    intro j
    rw [hW2, cell_old1 _ _ _ (by simp; omega), cell_old1 _ _ _ (by simp; omega), cell_old1 _ _ _ (by simp; omega), cell_new1 _ _ _ _ hf.symm]
  have m1 : W2.cell? ⟨f + 1, 0, none⟩ = some (.slice none 0 0) := by
    rw [hW2, cell_old1 _ _ _ (by simp; omega), cell_old1 _ _ _ (by simp; omega), cell_new1 _ _ _ _ (by simp; omega)]; rfl
  have m1f : W2.frozen? ⟨f + 1, 0, none⟩ = false := by
    rw [hW2, froz_old1 _ _ _ (by simp; omega), froz_old1 _ _ _ (by simp; omega), froz_new1 _ _ _ _ (by simp; omega)]
  have m2 : W2.cell? ⟨f + 2, 0, none⟩ = some (.slice (some ad) x.length c) := by
    rw [hW2, cell_old1 _ _ _ (by simp; omega), cell_new1 _ _ _ _ (by simp; omega)]; rfl
  have m3 : W2.cell? ⟨f + 3, 0, none⟩ = some (.int .i64 (z : Int)) := by
    rw [hW2, cell_new1 _ _ _ _ (by simp; omega)]; rfl
  have hB2 : Below W1.heap.size W1 W2 := by
    rw [hW2]
    exact below_alloc (below_alloc (below_alloc (below_alloc (Below.refl _ W1) _) _) _) _
  have m4 : W2.cell? ⟨w.heap.size + 1, 0, none⟩ = some (.int .u32 tsn) := (hB2.cell (p := ⟨w.heap.size + 1, 0, none⟩) y1).trans k2
  have HBW : Hid (Below w.heap.size w W2) := hid (hB0.trans ((hb'.mono (by omega)).trans (hB2.mono (by omega))))
  clear hW2 hB2 k1 k2 k3 k4 k5 k6 hW hb hb' hB0 z0 y2 y3 hz1'
  refine wpIn_rangeFunc_brk rfl (by decide) (gf := 89) (lb := #[.pointer (some ⟨f + 1 + 1, 0, none⟩), .pointer (some ⟨f + 1 + 1 + 1, 0, none⟩)]) rfl f89 (enters_of Try.func89 (by kernel_rfl) rfl)
    (chunk_stops 8 (by decide) (f + 2) (f + 3) (f + 1) W2.heap.size ad x.length c z (by omega) (by omega) (by omega) hc W2 (by omega) (by omega) (by omega) (by omega) (Nat.le_refl _) m2 m3) Keep.trans (keepK_b (Nat.le_refl _)) (Below.refl _ _) (fun _ => rfl)
    (fun pre W => CutI st false seq x tsn z f pre W ∧ W2.grownBy W (some (f + 1)))
    (fun _ _ => False)
    (OwnFrom.and (Own.from (fun s A B row hs hg hr => hs.other hg hr) _) (ownFrom_grown _ _ _ (Nat.le_refl _)))
    (fun _ _ _ _ h _ _ => h)
    ⟨⟨[], none, 0, rfl, m1, m1f, ⟨by decide, .inl ⟨rfl, rfl⟩⟩, fun q hq => by cases hq⟩, ⟨rfl, rfl, rfl, Nat.le_refl _, fun _ _ _ => rfl⟩⟩ ?a1 ?asg ?body
    (fun W => CutI st false seq x tsn z f (List.range (parts x.length z)) W ∧ W2.grownBy W (some (f + 1))) ?hd (fun _ _ _ h => h.elim) ?hend
  case asg =>
    intro lp y W K hK
    gi_wp2
    exact hK
  case hd =>
    rintro ys W rfl h
    exact h
  case body =>
    rintro lp pre y W ⟨⟨L, a2, c2, hcore, h1, h2, h3, h5⟩, h4⟩ hpre
    have hlen := CutI.len hcore
    have z4 := h4.size
    have hBW : Below w.heap.size w W := grown_lower h4 HBW.out (by omega) (by omega)
    have q0 : W.cell? ⟨w.heap.size + 1, 0, none⟩ = some (.int .u32 tsn) := h4.cell (a := ⟨w.heap.size + 1, 0, none⟩) m4 (by simp; omega)
    have p0 : W.cell? ⟨f, 0, none⟩ = some (.int .u32 tsn) := h4.cell (a := ⟨f, 0, none⟩) (m0 0) (by simp)
    have p1 : W.cell? ⟨f, 1, none⟩ = some (.int .u16 st) := h4.cell (a := ⟨f, 1, none⟩) (m0 1) (by simp)
    have p2 : W.cell? ⟨f, 2, none⟩ = some (.int .u16 seq) := h4.cell (a := ⟨f, 2, none⟩) (m0 2) (by simp)
    have p3 : W.cell? ⟨f, 3, none⟩ = some (.bool false) := h4.cell (a := ⟨f, 3, none⟩) (m0 3) (by simp)
    have p4 : W.cell? ⟨f, 4, none⟩ = some (.bool false) := h4.cell (a := ⟨f, 4, none⟩) (m0 4) (by simp)
    have p5 : W.cell? ⟨f, 5, none⟩ = some (.bool false) := h4.cell (a := ⟨f, 5, none⟩) (m0 5) (by simp)
    have p6 : W.cell? ⟨f, 6, none⟩ = some (.slice none 0 0) := h4.cell (a := ⟨f, 6, none⟩) (m0 6) (by simp)
    have HO := hid h3
    have HP := hid h5
    have H4 := hid h4
    have HBX := hid hBW
    have HC := hid hcore
    have hpl : L.length < 400 := by have := parts_le x.length z (by omega); omega
    have HLN := hid hlen
    clear hlen
    have b0 : w.heap.size + 1 < W.heap.size := by omega
    have b1 : f < W.heap.size := by omega
    have b2 : f + 1 < W.heap.size := by omega
    rw [chunkV_eq]
    clear h3 h5 h4 hBW m0 m1 m1f m2 m3 m4 hcore
    obtain ⟨T, hT⟩ : ∃ T, (x.drop (y * z)).take z = T := ⟨_, rfl⟩
    have hTl : T.length ≤ 64 := by rw [← hT]; simp; omega
    have HTC : Hid (Txt w (some (ad.add (y * z))) T) := hid (hT ▸ HX.out.part (y * z) z)
    rw [hT]
    have HT := hid hT
    clear hT
    gi_wp2_with (first
      | (gi_at_call 45; go_loud (refine (CallsIn.inRound lp (callsIn_wide.2 (step_calls _ _ _))).mono ?_); rintro e w_ ⟨rfl, rfl⟩)
      | (gi_at_call 46; refine (CallsIn.inRound lp (callsIn_wide.2 (clone_calls (some (ad.add (y * z))) T.length T _ (by omega) ((HTC.out.below HBX.out).below (below_alloc (Below.refl _ _) _)) (fun e => by cases e)))).mono ?_; rintro e W5 ⟨A6, c6, rfl, R6, hb6⟩; have g5 : W.heap.size < (W.alloc (.cells #[.int .u32 tsn, .int .u16 st, .int .u16 seq, .bool false, .bool false, .bool false, .slice none 0 0] 40)).heap.size := (by rw [Base_size]; omega); have g6 := hb6.size; have g7 : f + 1 < (W.alloc (.cells #[.int .u32 tsn, .int .u16 st, .int .u16 seq, .bool false, .bool false, .bool false, .slice none 0 0] 40)).heap.size := (by rw [Base_size]; omega); have u0 : W5.cell? ⟨W.heap.size, 0, none⟩ = some (.int .u32 tsn) := (hb6.cell (p := ⟨W.heap.size, 0, none⟩) g5).trans (by rw [cell_new1 _ _ _ _ rfl]; rfl); have u1 : W5.cell? ⟨W.heap.size, 1, none⟩ = some (.int .u16 st) := (hb6.cell (p := ⟨W.heap.size, 1, none⟩) g5).trans (by rw [cell_new1 _ _ _ _ rfl]; rfl); have u2 : W5.cell? ⟨W.heap.size, 2, none⟩ = some (.int .u16 seq) := (hb6.cell (p := ⟨W.heap.size, 2, none⟩) g5).trans (by rw [cell_new1 _ _ _ _ rfl]; rfl); have u3 : W5.cell? ⟨W.heap.size, 3, none⟩ = some (.bool false) := (hb6.cell (p := ⟨W.heap.size, 3, none⟩) g5).trans (by rw [cell_new1 _ _ _ _ rfl]; rfl); have u4 : W5.cell? ⟨W.heap.size, 4, none⟩ = some (.bool false) := (hb6.cell (p := ⟨W.heap.size, 4, none⟩) g5).trans (by rw [cell_new1 _ _ _ _ rfl]; rfl); have u5 : W5.cell? ⟨W.heap.size, 5, none⟩ = some (.bool false) := (hb6.cell (p := ⟨W.heap.size, 5, none⟩) g5).trans (by rw [cell_new1 _ _ _ _ rfl]; rfl); have u6 : W5.cell? ⟨W.heap.size, 6, none⟩ = some (.slice none 0 0) := (hb6.cell (p := ⟨W.heap.size, 6, none⟩) g5).trans (by rw [cell_new1 _ _ _ _ rfl]; rfl); have uo := (hb6.cell (p := ⟨f + 1, 0, none⟩) g7).trans ((cell_old1 W _ _ b2 _).trans h1); have uf := (hb6.frozen (p := ⟨f + 1, 0, none⟩) g7).trans ((froz_old1 W _ _ b2 _).trans h2); have fz0 : W5.frozen? ⟨W.heap.size, 0, none⟩ = false := (hb6.frozen (p := ⟨W.heap.size, 0, none⟩) g5).trans (froz_new1 _ _ _ _ rfl _); have fz6 : W5.frozen? ⟨W.heap.size, 6, none⟩ = false := (hb6.frozen (p := ⟨W.heap.size, 6, none⟩) g5).trans (froz_new1 _ _ _ _ rfl _); have HB6 := hid hb6; have HR6 := hid R6; clear hb6 R6 h1 h2)
      | (gi_at_builtin; refine wpListIn_append_own_at _ rfl _ _ 31 rfl (f + 4) 40 i0 zP 7 40 Try.underlying31 hi hi0 hi1 hi2 rfl (by decide) _ L.length (cellsP L) rfl ?ho ⟨W5.heap.size, 0, none⟩ 1 1 (cellsP [⟨step tsn L.length, st, seq, false, false, false, A6, T, c6⟩]) rfl rfl ?news ?one ?c3 ?c4 ?c5 ?_))
    case ho => exact Base.ownsRow_later (show W.ownsRow (f + 4) 40 7 (.slice a2 L.length c2) L.length (cellsP L) from HO.out) (B6 HB6.out)
    case news => exact fun j u h => new7' ((W5.setCell ⟨W.heap.size, 0, none⟩ (.int .u32 (step tsn L.length))).setCell ⟨W.heap.size, 6, none⟩ (.slice A6 T.length c6)) ⟨step tsn L.length, st, seq, false, false, false, A6, T, c6⟩ W5.heap.size j u (by simp) h
    case one => exact cellsP_one _
    case c3 => unfold maxLen; omega
    case c4 => omega
    case c5 => simp; omega
    have hnb : ∀ b, (Value.slice a2 L.length c2).ownBlock = some b → f + 4 ≤ b ∧ b < W.heap.size := fun b hb => own_base HO.out hb
    intro v' w' hown hgr hat
    obtain ⟨a3, c3, rfl, _⟩ := Base.slice_of_row hown
    have s5 : W.heap.size + 1 ≤ W5.heap.size := by have := HB6.out.size; simpa using this
    have hB6 := B6 (u6 := .slice A6 T.length c6) (u0 := .int .u32 (step tsn L.length)) (cs := #[.int .u32 (step tsn L.length), .int .u16 st, .int .u16 seq, .bool false, .bool false, .bool false, .slice A6 T.length c6]) (t := 40) HB6.out
    have ux : w'.cell? ⟨f + 1, 0, none⟩ = some (.slice a2 L.length c2) := hgr.cell (a := ⟨f + 1, 0, none⟩) (by rw [cell_old1 _ _ _ (by simp; omega)]; rw [World.cell?_setCell_far _ _ _ _ (show W.heap.size ≠ f + 1 by omega), World.cell?_setCell_far _ _ _ _ (show W.heap.size ≠ f + 1 by omega)]; exact uo) (by intro e; have := (hnb _ e.symm).1; exact absurd this (by show ¬ f + 4 ≤ f + 1; omega))
    have uy : w'.frozen? ⟨f + 1, 0, none⟩ = false := by
      rw [World.frozen?_of_block (hgr.block (f + 1) (by simp; omega) (by intro e; have := (hnb _ e.symm).1; omega)), froz_old1 _ _ _ (by simp; omega), World.frozen?_setCell, World.frozen?_setCell]; exact uf
    have hro := Base.ownsRow_later (show W.ownsRow (f + 4) 40 7 (.slice a2 L.length c2) L.length (cellsP L) from HO.out) hB6
    have hrow : Row w' (f + 4) a3 c3 (L ++ [⟨step tsn L.length, st, seq, false, false, false, A6, T, c6⟩]) := by
      unfold Row
      rw [cellsP_app, List.length_append]
      exact hown
    have hnew := Base.ownsRow_later (ownsRow_setCell_below (ownsRow_setCell_below HR6.out (show W.heap.size < _ by rw [Base_size]; omega) (.int .u32 (step tsn L.length)) (a := ⟨W.heap.size, 0, none⟩)) (show W.heap.size < _ by rw [Base_size]; omega) (.slice A6 T.length c6) (a := ⟨W.heap.size, 6, none⟩)) (below_alloc (Below.refl _ _) (.cells #[.int .u32 (step tsn L.length), .int .u16 st, .int .u16 seq, .bool false, .bool false, .bool false, .slice A6 T.length c6] 40))
    have htx : ∀ q ∈ L ++ [(⟨step tsn L.length, st, seq, false, false, false, A6, T, c6⟩ : Pm)], w'.ownsRow (f + 4) 5 1 (.slice q.A q.x.length q.c) q.x.length (q.x.map (.int .u8)) := by
      intro q hq
      rcases List.mem_append.1 hq with hq | hq
      · have := Base.ownsRow_later (HP.out q hq) hB6
        exact this.kept hgr (own_types this hro (by decide))
      · obtain rfl := List.mem_singleton.1 hq
        exact own_low (hnew.kept hgr (own_types hnew hro (by decide))) (by rw [Base_size]; omega)
    have hcr : (L ++ [(⟨step tsn L.length, st, seq, false, false, false, A6, T, c6⟩ : Pm)]).map core = rawL st false seq x tsn z (pre ++ [y]) := by
      rw [rawL_snoc, List.map_append, HC.out, List.map_cons, List.map_nil]
      unfold rawC core
      rw [HLN.out, HT.out]
    have hk1 : Keep (f + 1) W2.heap.size W w' := (Keep.of_below (hB6.mono (by omega))).trans ⟨hgr.size, fun b hb hne => hgr.block b (by simp; omega) (fun e => by have := (hnb b e.symm).1; omega)⟩
    have hk2 : KeepsOthers W w' := (keeps_below hB6).trans (KeepsOthers.of_grownBy hgr (fun j o e h => own_cells hro j o e h))
    have hgw := grown_chain H4.out hB6 hgr (fun k e => by have := (hnb k e).1; omega) (.slice a3 (L.length + 1) c3)
    have HF := hid (And.intro hrow (And.intro htx (And.intro hcr (And.intro hk1 (And.intro hk2 hgw)))))
    clear hrow htx hcr hk1 hk2 hgw hnew hro hB6 hown hgr hat
    gi_wp2
    obtain ⟨e1, e1', e1'', e2, e3, e4⟩ := HF.out
    have e5 : W2.heap.size ≤ w'.heap.size := by have := e2.size; omega
    exact ⟨e3.trans (KeepsOthers.setCell _ _ _), e2.trans (Keep.of_grown (grownBy_setCell' _ _ _) e5), ⟨_, a3, c3, e1'', by rw [World.cell?_setCell_same' _ _ _ (by rw [ux]; rfl)]; simp, by rw [World.frozen?_setCell]; exact uy, ownsRow_setCell_below e1 (show f + 1 < f + 4 by omega) _, fun q hq => ownsRow_setCell_below (e1' q hq) (show f + 1 < f + 4 by omega) _⟩, e4⟩
  case hend =>
    rintro D W hD ⟨⟨L, A3, c3, hcore, h1, h2, h3, h5⟩, h4⟩ hK
    have hN : 0 < parts x.length z := (parts_lt (by omega)).2 (by omega)
    obtain ⟨M, hM⟩ : ∃ M, parts x.length z = M + 1 := ⟨parts x.length z - 1, by omega⟩
    have hMl : M < 400 := by have := parts_le x.length z (by omega); omega
    rw [hM] at hcore
    have hll : L.length = M + 1 := by
      have := CutI.len hcore
      rwa [List.length_range] at this
    obtain ⟨g, rfl, hg1, hg2, hcA⟩ := h3.at 0 (by omega)
    obtain ⟨g', e', -, -, hcB⟩ := h3.at M (by omega)
    cases e'
    obtain ⟨bA, cA⟩ : ∃ b : Bool, W.cell? ⟨g, 3, none⟩ = some (.bool b) := by
      have := hcA 3 (by decide)
      rw [show 0 * 7 + 3 = 3 by omega] at this
      exact ⟨_, this⟩
    obtain ⟨bB, cB⟩ : ∃ b : Bool, W.cell? ⟨g, M * 7 + 4, none⟩ = some (.bool b) := ⟨_, hcB 4 (by decide)⟩
    have fA : W.frozen? ⟨g, 3, none⟩ = false := World.ownsRow.frozenAt h3 3
    have fB : W.frozen? ⟨g, M * 7 + 4, none⟩ = false := World.ownsRow.frozenAt h3 (M * 7 + 4)
    rw [hll] at h1
    have H3 := hid h3
    have H4 := hid h4
    have H5 := hid h5
    have HLL := hid hll
    have HCO := hid hcore
    have hgf1 : g ≠ f + 1 := by omega
    have HK := hid hK
    have HM := hid hM
    clear h3 h4 h5 hcA hcB m0 m1 m1f m2 m3 m4 hK hM hN hll hcore
    gi_wp2
    refine wpIn_wide.2 ?_
    go_region
    have hR1 := H3.out.mark 0 3 (.bool true) (fun p => { p with b := true }) (by decide) (fun p _ => rfl) (by rw [HLL.out]; omega)
    rw [show 0 * 7 + 3 = 3 by omega] at hR1
    have hR2 := hR1.1.mark M 4 (.bool true) (fun p => { p with e := true }) (by decide) (fun p _ => rfl) (by rw [List.length_modify, HLL.out]; omega)
    have hT1 : ∀ q ∈ L, ((W.setCell ⟨g, 3, none⟩ (.bool true)).setCell ⟨g, M * 7 + 4, none⟩ (.bool true)).ownsRow (f + 4) 5 1 (.slice q.A q.x.length q.c) q.x.length (q.x.map (.int .u8)) := fun q hq => by
      have hne : (Value.slice q.A q.x.length q.c).ownBlock ≠ some g := by
        rcases own_types (H5.out q hq) H3.out (by decide) with e | e
        · rw [e]; exact fun e => by cases e
        · exact e
      exact ownsRow_setCell_other (ownsRow_setCell_other (H5.out q hq) hne _) hne _
    have hnd : D ≠ g := by
      intro e
      subst e
      have := own_cells H3.out D _ rfl HK.out
      cases this
    have hR3 := Base.ownsRow_later hR2.1 (Below.drew (Below.refl _ _))
    obtain ⟨W3, hW3⟩ : ∃ W3, W3 = ((W.setCell ⟨g, 3, none⟩ (.bool true)).setCell ⟨g, M * 7 + 4, none⟩ (.bool true)).drew := ⟨_, rfl⟩
    have hT3 : ∀ q ∈ L, W3.ownsRow (f + 4) 5 1 (.slice q.A q.x.length q.c) q.x.length (q.x.map (.int .u8)) := fun q hq => by
      rw [hW3]
      exact Base.ownsRow_later (hT1 q hq) (Below.drew (Below.refl _ _))
    rw [← hW3] at hR3 ⊢
    have c1 : W3.cell? ⟨f + 1, 0, none⟩ = some (.slice (some ⟨g, 0, none⟩) (M + 1) c3) := by
      rw [hW3, World.cell?_drew, World.cell?_setCell_far _ _ _ _ hgf1, World.cell?_setCell_far _ _ _ _ hgf1]; exact h1
    have hD3 : W3.heap[D]? = some (.deferred (some [])) := by
      rw [hW3]
      show ((W.setCell ⟨g, 3, none⟩ (.bool true)).setCell ⟨g, M * 7 + 4, none⟩ (.bool true)).heap[D]? = _
      rw [Below.heap_setCell _ _ _ _ hnd, Below.heap_setCell _ _ _ _ hnd]; exact HK.out
    have hB3 : Below w.heap.size w W3 := by
      rw [hW3]
      have b1 : Below w.heap.size w W := grown_lower H4.out HBW.out (by omega) (by omega)
      have b2 := b1.grown hR1.2 b1.size (fun k e => by cases e; omega)
      have b3 := b2.grown hR2.2 b2.size (fun k e => by cases e; omega)
      exact b3.drew
    have hend := hid (hB3.trans (belowK_b (w := w) (Nat.le_refl _) W3 D _ (.deferred none) (by omega) hD3 rfl rfl))
    have HE : Hid (Row W3 (f + 4) (some ⟨g, 0, none⟩) c3 (markL L M)) := hid hR3
    have HT3 := hid hT3
    have HD3 := hid hD3
    have HMC := hid (mark_core st false seq seq x tsn z M L HM.out HCO.out rfl)
    have HML : Hid ((markL L M).length = M + 1) := hid (by rw [markL_len]; exact HLL.out)
    clear hR1 hR2 hR3 hW3 hD3 hB3 cA cB fA fB h1 h2 hgf1 hnd H3 H4 HK hT1 hT3
    gi_wp2
    refine ⟨by simp, .inl ⟨_, _, rfl, run_takeDeferred HD3.out, ?_⟩⟩
    have hoth : ∀ k, some D = some k → ∃ o : Obj, W3.heap[k]? = some o ∧ o.isCells = false := fun k e => by cases e; exact ⟨_, HD3.out, rfl⟩
    refine ⟨_, results_tmp2 rfl _ _ _, some ⟨g, 0, none⟩, c3, markL L M, (by rw [HML.out]; rfl), own_low (own_other HE.out (grownBy_putObj' W3 D (.deferred none)) hoth) (by omega), fun q hq => ?_, HMC.out, hend.out⟩
    obtain ⟨p, hp, e1, e2, e3⟩ := markL_mem L M q hq
    rw [e1, e2, e3]
    exact own_low (own_other (HT3.out p hp) (grownBy_putObj' W3 D (.deferred none)) hoth) (by omega)
end Go.Proofs.Ythoammfpjheodaa.Rz
