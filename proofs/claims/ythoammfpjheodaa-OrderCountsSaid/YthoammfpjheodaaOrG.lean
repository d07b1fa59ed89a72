import Derived.Test.YthoammfpjheodaaOrF
namespace Go.Proofs.Ythoammfpjheodaa.Or
open Go.ChangeShapes Go.WideShapes Go.ChangeAt Go.RowKit Go.Shelf MK
open Base (hid cell_new1 cell_old1 froz_new1 froz_old1)
open Rz (below_alloc lt_of_cell add_block Txt box_at box_new box_old setCells_grown grown_setAt own_low own_base txt_row nil_row clone_calls)
attribute [local go_sem] Oper.semAt_some
set_option linter.unusedVariables false
set_option linter.unusedSimpArgs false
set_option maxRecDepth 100000
/-! Pop, Ready, Next -/
variable {w w' : World} {bp mb n : Nat} {d : Ds} {f : SK → Option Mg} {L : List Mg} {A : Option Addr} {c : Nat}
theorem results23 {fn : Func} (h : fn.results = #[.cell 2 34, .tmp 3]) {tmps : Array Value} {b : Nat} {s : Int} {u : Bool} {A : Option Addr} {n c : Nat} {v : Value} {w : World} (ht : tmps[2]? = some (.pointer (some ⟨b, 0, none⟩))) (ht3 : tmps[3]? = some v) (hc : MB w b s u A n c) :
    (results fn tmps).run Try.prog w = .ok (.tuple #[.agg #[.int .i64 s, .bool u, .slice A n c], v]) w := by
  obtain ⟨c0, c1, c2, _⟩ := hc
  simp only [results, h]
  simp [go_sem, c0, c1, c2, Sem.run_bind, Array.getD_eq_getD_getElem?, ht, ht3]
set_option maxHeartbeats 2000000 in
theorem pop_none (w : World) (bp mb n : Nat) (d : Ds) (f : SK → Option Mg) (A : Option Addr) (c : Nat) (h : Dk w bp mb n d f [] A c) :
    Calls Try.prog 21 #[.pointer (some ⟨bp, 0, none⟩)] w fun e w' => e = .returned (.tuple #[.agg #[.int .i64 0, .bool false, .slice none 0 0], .iface 81 (.int .i64 4)]) ∧ Below w.heap.size w w' := by
  have hb : Below w.heap.size w (w.alloc (.cells #[.int .i64 0, .bool false, .slice none 0 0] 34)) := below_alloc (Below.refl _ _) _
  have HB := hid hb
  have HM := MB.new w 0 false none 0 0 (b := w.heap.size) rfl
  have HD := hid (h.below hb)
  have HMB := hid HM
  have c9 := HD.out.c9
  obtain ⟨W, hW⟩ : ∃ W, W = w.alloc (.cells #[.int .i64 0, .bool false, .slice none 0 0] 34) := ⟨_, rfl⟩
  rw [← hW] at HB HD HMB c9
  have HWW := hid hW
  obtain ⟨m0, m1, m2, mf⟩ := HMB.out
  clear hb h HM hW
  go_enter Try.func21, Try.ntmps21
  go_upto_region 1 with fail
  rw [← HWW.out]
  go_wp2
  refine bodyPost_ret (results23 rfl rfl rfl HMB.out.sets) rfl ⟨rfl, ?_⟩
  have gs := setCells_grown w.heap.size [.int .i64 0, .bool false, .slice none 0 0] 0 W
  exact HB.out.grown gs HB.out.size (fun k e => by have := Option.some.inj e; omega)
theorem Dk.keptB (h : Dk w bp mb n d f L A c) {b : Nat} (hg : w.grownBy w' (some b)) (h1 : b ≠ bp) (h2 : b ≠ mb) (h3 : some b ≠ blk A) (hn : NoTxt w b) : Dk w' bp mb n d f L A c :=
  ⟨(hg.block bp h.lt.1 (fun e => h1 (Option.some.inj e).symm)).trans h.box, h.nxl, h.map.kept hg (fun e => h2 (Option.some.inj e).symm), h.fm, fun k m e => (h.fok k m e).kept hg hn, h.rdy.block fun a e => hg.block _ (h.rdy.lt a e) (fun e2 => h3 (by rw [e]; exact e2.symm)), h.rdm, fun m hm => (h.rok m hm).kept hg hn⟩
theorem Dk.tail {m : Mg} {g off off' c' : Nat} (h : Dk w bp mb n d f (m :: L) (some ⟨g, off, none⟩) c) (ho : (off' = off ∧ c = 1 ∧ c' = 0) ∨ (off' = off + 3 ∧ c' = c - 1)) :
    Dk (w.setCell ⟨bp, 9, none⟩ (.slice (some ⟨g, off', none⟩) L.length c')) bp mb n ⟨d.nx, d.ws, d.rd.tail⟩ f L (some ⟨g, off', none⟩) c' ∧ w.grownBy (w.setCell ⟨bp, 9, none⟩ (.slice (some ⟨g, off', none⟩) L.length c')) (some bp) := by
  have gs := grown_setAt w bp 9 (.slice (some ⟨g, off', none⟩) L.length c')
  have hro : RO w (some ⟨g, off', none⟩) c' L := by
    rcases h.rdy with ⟨h1, _⟩ | ⟨g2, o2, e, ⟨cur, hg, hs⟩, hl, hc⟩
    · cases h1
    · cases e
      rw [List.length_cons] at hl
      rcases ho with ⟨rfl, rfl, rfl⟩ | ⟨rfl, rfl⟩
      · have : L = [] := List.length_eq_zero_iff.1 (by omega)
        subst this
        exact .inr ⟨g, _, rfl, ⟨cur, hg, by omega⟩, Nat.le_refl _, fun j u hj => by simp [cellsM] at hj⟩
      · refine .inr ⟨g, _, rfl, ⟨cur, hg, by omega⟩, by omega, fun j u hj => ?_⟩
        have := hc (3 + j) u (by
          have e : cellsM (m :: L) = m.cells ++ cellsM L := by unfold cellsM; rw [List.flatMap_cons]
          have hl3 : m.cells.length = 3 := rfl
          rw [e, List.getElem?_append_right (by omega), hl3, Nat.add_sub_cancel_left]
          exact hj)
        rw [← Nat.add_assoc] at this
        exact this
  refine ⟨⟨set9 h.nxl _ _ _ h.box, h.nxl, h.map.kept gs (fun e => h.ne (Option.some.inj e).symm), h.fm, fun k m e => (h.fok k m e).kept gs h.ntb, ?_, ?_, fun m' hm => (h.rok m' (List.mem_cons_of_mem _ hm)).kept gs h.ntb⟩, gs⟩
  · exact hro.block fun a e => gs.block _ (hro.lt a e) (fun e2 => by cases e; exact (h.ane _ rfl).1 (Option.some.inj e2))
  · show L.map Mg.cm = d.rd.tail
    rw [← h.rdm]
    rfl
theorem pop_end {m : Mg} {g off off' c' b0 : Nat} {w0 : World} (h : Dk w bp mb n d f (m :: L) (some ⟨g, off, none⟩) c) (ho : (off' = off ∧ c = 1 ∧ c' = 0) ∨ (off' = off + 3 ∧ c' = c - 1)) (hb : Below w0.heap.size w0 w) (hb0 : w0.heap.size ≤ b0) (hlt : bp < w0.heap.size ∧ mb < w0.heap.size ∧ g < w0.heap.size) (hM : MB w b0 0 false none 0 0) (hMt : NoTxt w b0) {X : World} (hX : X = (((((w.setCell ⟨bp, 9, none⟩ (.slice (some ⟨g, off', none⟩) L.length c')).setCell ⟨b0, 0, none⟩ (.int .i64 m.s)).setCell ⟨b0, 1, none⟩ (.bool m.u)).setCell ⟨b0, 2, none⟩ (.slice m.A m.x.length m.c)).alloc (.cells #[.int .i64 m.s, .bool m.u, .slice m.A m.x.length m.c] 34))) :
    Dk X bp mb n ⟨d.nx, d.ws, d.rd.tail⟩ f L (some ⟨g, off', none⟩) c' ∧ Mv w0 X bp mb none ∧ MO X m ∧ MB X b0 m.s m.u m.A m.x.length m.c := by
  obtain ⟨vs, hvs⟩ : ∃ vs : List Value, vs = [.int .i64 m.s, .bool m.u, .slice m.A m.x.length m.c] := ⟨_, rfl⟩
  obtain ⟨o, ho2⟩ : ∃ o, o = Obj.cells #[.int .i64 m.s, .bool m.u, .slice m.A m.x.length m.c] 34 := ⟨_, rfl⟩
  have hX : X = ((w.setCell ⟨bp, 9, none⟩ (.slice (some ⟨g, off', none⟩) L.length c')).setCells b0 0 vs).alloc o := by rw [hX, hvs, ho2]; rfl
  subst hX
  obtain ⟨h1, g1⟩ := h.tail ho
  have g2 := setCells_grown b0 vs 0 (w.setCell ⟨bp, 9, none⟩ (.slice (some ⟨g, off', none⟩) L.length c'))
  have hbl := hM.lt
  have hnt : NoTxt (w.setCell ⟨bp, 9, none⟩ (.slice (some ⟨g, off', none⟩) L.length c')) b0 := noTxt_kept (row := none) hMt (g1.block b0 hbl (fun e => by have := Option.some.inj e; omega))
  have h2 := h1.keptB g2 (by omega) (by omega) (fun e => by have : b0 = g := Option.some.inj e; omega) hnt
  have hmo : MO w m := h.rok m List.mem_cons_self
  refine ⟨h2.below (below_alloc (Below.refl _ _) _), ?_, ((hmo.kept g1 h.ntb).kept g2 hnt).below (below_alloc (Below.refl _ _) _), ?_⟩
  case refine_2 =>
    have hm1 := hM.block (g1.block b0 hbl (fun e => by have := Option.some.inj e; omega))
    rw [hvs]
    exact hm1.sets.below (below_alloc (Below.refl _ _) _)
  have m1 : Mv w0 w bp mb none := Mv.of_below hb
  have m2 : Mv w _ bp mb none := Mv.grown g1 fun k e => .inl (Option.some.inj e).symm
  have h12 := m1.trans m2 (Nw.refl _ _)
  have m4 : Mv ((w.setCell ⟨bp, 9, none⟩ (.slice (some ⟨g, off', none⟩) L.length c')).setCells b0 0 vs) (((w.setCell ⟨bp, 9, none⟩ (.slice (some ⟨g, off', none⟩) L.length c')).setCells b0 0 vs).alloc o) bp mb none := Mv.of_below (below_alloc (Below.refl _ _) _)
  have m3 : Mv w0 ((w.setCell ⟨bp, 9, none⟩ (.slice (some ⟨g, off', none⟩) L.length c')).setCells b0 0 vs) bp mb none :=
    ⟨g2.os.trans h12.os, g2.tape.trans h12.tape, g2.output.trans h12.output, Nat.le_trans h12.size g2.size, fun k hk h1 h2 h3 => (g2.block k (Nat.lt_of_lt_of_le hk h12.size) (fun e => by have := Option.some.inj e; omega)).trans (h12.block k hk h1 h2 h3)⟩
  exact m3.trans m4 (Nw.refl _ _)
set_option maxHeartbeats 2000000 in
theorem pop_some (w : World) (bp mb n : Nat) (d : Ds) (f : SK → Option Mg) (m : Mg) (L : List Mg) (A : Option Addr) (c : Nat) (h : Dk w bp mb n d f (m :: L) A c) :
    Calls Try.prog 21 #[.pointer (some ⟨bp, 0, none⟩)] w fun e w' => ∃ A' c', e = .returned (.tuple #[.agg #[.int .i64 m.s, .bool m.u, .slice m.A m.x.length m.c], .nilIface]) ∧ Dk w' bp mb n ⟨d.nx, d.ws, d.rd.tail⟩ f L A' c' ∧ Mv w w' bp mb none ∧ blk A' = blk A ∧ MO w' m := by
  have hb : Below w.heap.size w (w.alloc (.cells #[.int .i64 0, .bool false, .slice none 0 0] 34)) := below_alloc (Below.refl _ _) _
  have HB := hid hb
  have HM := MB.new w 0 false none 0 0 (b := w.heap.size) rfl
  have HD := hid (h.below hb)
  have HMB := hid HM
  obtain ⟨W, hW⟩ : ∃ W, W = w.alloc (.cells #[.int .i64 0, .bool false, .slice none 0 0] 34) := ⟨_, rfl⟩
  rw [← hW] at HB HD HMB
  have hl0 := h.lt
  have hga0 := h.rdy.lt
  have HWW := hid hW
  have HWs : Hid (W.heap.size = w.heap.size + 1) := hid (by rw [hW]; simp)
  obtain ⟨m0, m1, m2, mf⟩ := HMB.out
  obtain ⟨g, off, rfl, hgl, a0, a1, a2⟩ := HD.out.rdy.at 0 (by simp)
  have hga : g < w.heap.size := hga0 _ rfl
  have c9 := HD.out.c9
  have hlt := HD.out.lt
  have hfr := HD.out.fr 9
  have hlc := HD.out.rdy.len
  simp only [Nat.zero_mul, Nat.add_zero, List.getElem_cons_zero, List.length_cons] at a0 a1 a2 c9 hlc
  have hmw := HMB.out.lt
  clear hb h HM hW hga0
  go_enter Try.func21, Try.ntmps21
  go_upto_region 1 with fail
  rw [← HWW.out]
  have HL0 : Hid (bp < w.heap.size ∧ mb < w.heap.size ∧ g < w.heap.size) := hid ⟨hl0.1, hl0.2, hga⟩
  have HC9 := hid hlc
  have HN0 : Hid (NoTxt W w.heap.size) := hid (fun cur fr e => by
    rw [HWW.out, box_new w _ rfl] at e
    cases e)
  have hz : ((L.length : Int) + 1 == 0) = false := by simp; omega
  by_cases hc1 : c = 1
  · subst hc1
    obtain rfl : L = [] := List.length_eq_zero_iff.1 (by omega)
    go_wp2
    have F := pop_end HD.out (off' := off) (c' := 0) (.inl ⟨rfl, rfl, rfl⟩) HB.out (Nat.le_refl _) HL0.out HMB.out HN0.out (X := ((((W.setCell ⟨bp, 9, none⟩ (.slice (some ⟨g, off, none⟩) 0 0)).setCell ⟨w.heap.size, 0, none⟩ (.int .i64 m.s)).setCell ⟨w.heap.size, 1, none⟩ (.bool m.u)).setCell ⟨w.heap.size, 2, none⟩ (.slice m.A m.x.length m.c)).alloc (.cells #[.int .i64 m.s, .bool m.u, .slice m.A m.x.length m.c] 34)) rfl
    exact bodyPost_ret (results23 rfl rfl rfl F.2.2.2) rfl ⟨_, _, rfl, F.1, F.2.1, rfl, F.2.2.1⟩
  · go_wp2
    have F := pop_end HD.out (off' := off + 3) (c' := c - 1) (.inr ⟨rfl, rfl⟩) HB.out (Nat.le_refl _) HL0.out HMB.out HN0.out (X := ((((W.setCell ⟨bp, 9, none⟩ (.slice (some ⟨g, off + 3, none⟩) L.length (c - 1))).setCell ⟨w.heap.size, 0, none⟩ (.int .i64 m.s)).setCell ⟨w.heap.size, 1, none⟩ (.bool m.u)).setCell ⟨w.heap.size, 2, none⟩ (.slice m.A m.x.length m.c)).alloc (.cells #[.int .i64 m.s, .bool m.u, .slice m.A m.x.length m.c] 34)) rfl
    exact bodyPost_ret (results23 rfl rfl rfl F.2.2.2) rfl ⟨_, _, rfl, F.1, F.2.1, rfl, F.2.2.1⟩
end Go.Proofs.Ythoammfpjheodaa.Or
