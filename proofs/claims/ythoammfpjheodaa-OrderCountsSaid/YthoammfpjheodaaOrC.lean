import Derived.Test.YthoammfpjheodaaOrB
namespace Go.Proofs.Ythoammfpjheodaa.Or
open Go.ChangeShapes Go.WideShapes Go.ChangeAt Go.RowKit Go.Shelf MK
open Base (hid cell_new1 cell_old1 froz_new1 froz_old1)
open Rz (below_alloc lt_of_cell add_block Txt box_at box_new box_old setCells_grown grown_setAt own_low own_base txt_row nil_row clone_calls)
attribute [local go_sem] Oper.semAt_some
set_option linter.unusedVariables false
set_option linter.unusedSimpArgs false
set_option maxRecDepth 100000
/-! a desk in memory; come -/
def boxD (nx : List Int) (mb : Nat) (A : Option Addr) (n c : Nat) : Array Value := (nx.map (Value.int .u16) ++ [Value.map (some mb), Value.slice A n c]).toArray
/-- A desk in memory. -/
structure Dk (w : World) (bp mb n : Nat) (d : Ds) (f : SK → Option Mg) (L : List Mg) (A : Option Addr) (c : Nat) : Prop where
  box : w.heap[bp]? = some (.cells (boxD d.nx mb A L.length c) 112 (0, 0))
  nxl : d.nx.length = 8
  map : MapIs Try.prog 117 w slotKs mb n (fun k => (f k).map Mg.val) d.ws.length
  fm : ∀ k : SK, (f k).map Mg.cm = (lookW d.ws k.1.1 k.1.2).map (·.2)
  fok : ∀ k m, f k = some m → MO w m
  rdy : RO w A c L
  rdm : L.map Mg.cm = d.rd
  rok : ∀ m ∈ L, MO w m
variable {w w' : World} {bp mb n : Nat} {d : Ds} {f : SK → Option Mg} {L : List Mg} {A : Option Addr} {c : Nat}
theorem Dk.rdl (h : Dk w bp mb n d f L A c) : L.length = d.rd.length := by rw [← h.rdm, List.length_map]
theorem Dk.lt (h : Dk w bp mb n d f L A c) : bp < w.heap.size ∧ mb < w.heap.size := ⟨(Array.getElem?_eq_some_iff.1 h.box).1, h.map.lt⟩
theorem Dk.mapb (h : Dk w bp mb n d f L A c) : ∃ es cl, w.heap[mb]? = some (.map es cl) := by
  obtain ⟨D, ⟨es, clock, hb, _⟩, _⟩ := h.map
  exact ⟨_, _, hb⟩
theorem Dk.ne (h : Dk w bp mb n d f L A c) : bp ≠ mb := by
  rintro rfl
  obtain ⟨es, cl, hb⟩ := h.mapb
  rw [h.box] at hb
  cases hb
theorem Dk.ane (h : Dk w bp mb n d f L A c) : ∀ a, A = some a → a.block ≠ bp ∧ a.block ≠ mb := by
  rintro a rfl
  rcases h.rdy with ⟨h1, _⟩ | ⟨g, off, h1, ⟨cur, hg, _⟩, _⟩
  · cases h1
  · cases h1
    refine ⟨fun e => ?_, fun e => ?_⟩
    · have e : g = bp := e
      rw [e, h.box] at hg
      cases hg
    · obtain ⟨es, cl, hb⟩ := h.mapb
      have e : g = mb := e
      rw [e, hb] at hg
      cases hg
theorem Dk.bne (h : Dk w bp mb n d f L A c) : some bp ≠ blk A ∧ some mb ≠ blk A := by
  cases hA : A with
  | none => exact ⟨(by simp [blk]), (by simp [blk])⟩
  | some a =>
    have := h.ane a hA
    exact ⟨fun e => this.1 (Option.some.inj e).symm, fun e => this.2 (Option.some.inj e).symm⟩
theorem Dk.ntA (h : Dk w bp mb n d f L A c) : ∀ a, A = some a → NoTxt w a.block := by
  rintro a rfl cur fr e
  rcases h.rdy with ⟨h1, _⟩ | ⟨g, off, h1, ⟨cur, hg, _⟩, _⟩
  · cases h1
  · cases h1
    rw [hg] at e
    cases e
theorem Dk.ntb (h : Dk w bp mb n d f L A c) : NoTxt w bp := fun cur fr e => by rw [h.box] at e; cases e
theorem Dk.ntm (h : Dk w bp mb n d f L A c) : NoTxt w mb := fun cur fr e => by
  obtain ⟨es, cl, hb⟩ := h.mapb
  rw [hb] at e
  cases e
theorem boxD_get {nx : List Int} (hl : nx.length = 8) (mb : Nat) (A : Option Addr) (n c : Nat) : (∀ i (h : i < nx.length), (boxD nx mb A n c)[i]? = some (.int .u16 nx[i])) ∧ (boxD nx mb A n c)[8]? = some (.map (some mb)) ∧ (boxD nx mb A n c)[9]? = some (.slice A n c) := by
  refine ⟨fun i hi => ?_, ?_, ?_⟩
  · unfold boxD
    simp only [List.getElem?_toArray]
    rw [List.getElem?_append_left (by simpa using hi)]
    simp [hi]
  · unfold boxD
    simp only [List.getElem?_toArray]
    rw [List.getElem?_append_right (by simp [hl])]
    simp [hl]
  · unfold boxD
    simp only [List.getElem?_toArray]
    rw [List.getElem?_append_right (by simp [hl])]
    simp [hl]
theorem Dk.c8 (h : Dk w bp mb n d f L A c) : w.cell? ⟨bp, 8, none⟩ = some (.map (some mb)) := ((box_at h.box 8).1).trans (boxD_get h.nxl mb A L.length c).2.1
theorem Dk.c9 (h : Dk w bp mb n d f L A c) : w.cell? ⟨bp, 9, none⟩ = some (.slice A L.length c) := ((box_at h.box 9).1).trans (boxD_get h.nxl mb A L.length c).2.2
theorem Dk.cn (h : Dk w bp mb n d f L A c) {s : Int} (hs : 0 ≤ s ∧ s ≤ 7) : w.cell? ⟨bp, s.toNat, none⟩ = some (.int .u16 (nxt d.nx s)) := by
  obtain ⟨hl, e⟩ := nxt_mem h.nxl hs
  rw [e]
  exact ((box_at h.box _).1).trans ((boxD_get h.nxl mb A L.length c).1 _ hl)
theorem Dk.fr (h : Dk w bp mb n d f L A c) (i : Nat) : w.frozen? ⟨bp, i, none⟩ = false := (box_at h.box i).2
theorem Dk.below (h : Dk w bp mb n d f L A c) (hb : Below w.heap.size w w') : Dk w' bp mb n d f L A c :=
  ⟨(hb.block bp h.lt.1).trans h.box, h.nxl, h.map.below hb, h.fm, fun k m e => (h.fok k m e).below hb, h.rdy.below hb, h.rdm, fun m hm => (h.rok m hm).below hb⟩
/-- A world that went on; what was lies as it lay but for a desk. -/
structure Mv (w w' : World) (bp mb : Nat) (r : Option Nat) : Prop where
  os : w'.os = w.os
  tape : w'.tape = w.tape
  output : w'.output = w.output
  size : w.heap.size ≤ w'.heap.size
  block : ∀ k, k < w.heap.size → k ≠ bp → k ≠ mb → some k ≠ r → w'.heap[k]? = w.heap[k]?
theorem Mv.of_below {r : Option Nat} (h : Below w.heap.size w w') : Mv w w' bp mb r := ⟨h.os, h.tape, h.output, h.size, fun k hk _ _ _ => h.block k hk⟩
/-- A row that is where it was, or new. -/
def Nw (w : World) (r r' : Option Nat) : Prop := r' = r ∨ ∃ g, r' = some g ∧ w.heap.size ≤ g
theorem Nw.refl (w : World) (r : Option Nat) : Nw w r r := .inl rfl
theorem Nw.trans {w w1 : World} {r r1 r2 : Option Nat} (h1 : Nw w r r1) (h2 : Nw w1 r1 r2) (hs : w.heap.size ≤ w1.heap.size) : Nw w r r2 := by
  rcases h2 with rfl | ⟨g, e, hg⟩
  · exact h1
  · exact .inr ⟨g, e, by omega⟩
theorem Mv.trans {a b x : World} {r r' : Option Nat} (h : Mv a b bp mb r) (k : Mv b x bp mb r') (hr : Nw a r r') : Mv a x bp mb r :=
  ⟨k.os.trans h.os, k.tape.trans h.tape, k.output.trans h.output, Nat.le_trans h.size k.size, fun i h1 h2 h3 h4 => (k.block i (Nat.lt_of_lt_of_le h1 h.size) h2 h3 (fun e => by
    rcases hr with hr | ⟨g, hr, hg⟩
    · exact h4 (e.trans hr)
    · rw [hr] at e
      have := Option.some.inj e
      omega)).trans (h.block i h1 h2 h3 h4)⟩
theorem Mv.grown {r row : Option Nat} (h : w.grownBy w' row) (hr : ∀ k, row = some k → k = bp ∨ k = mb ∨ some k = r ∨ w.heap.size ≤ k) : Mv w w' bp mb r :=
  ⟨h.os, h.tape, h.output, h.size, fun k hk h1 h2 h3 => h.block k hk (fun e => by rcases hr k e.symm with h | h | h | h
                                                                                  · exact h1 h
                                                                                  · exact h2 h
                                                                                  · exact h3 h
                                                                                  · omega)⟩
theorem set9 {nx : List Int} (hl : nx.length = 8) {mb : Nat} {A : Option Addr} (A' : Option Addr) {n c : Nat} (n' c' : Nat) (h : w.heap[bp]? = some (.cells (boxD nx mb A n c) 112 (0, 0))) : (w.setCell ⟨bp, 9, none⟩ (.slice A' n' c')).heap[bp]? = some (.cells (boxD nx mb A' n' c') 112 (0, 0)) := by
  simp only [World.setCell, Array.getElem?_modify, if_pos, h, Option.map_some]
  rw [if_neg (by decide)]
  unfold boxD
  rw [List.setIfInBounds_toArray, List.set_append_right _ _ (by simp [hl])]
  simp [hl]
theorem setn {nx : List Int} (hl : nx.length = 8) {mb : Nat} {A : Option Addr} {n c : Nat} {s : Int} (v : Int) (hs : 0 ≤ s ∧ s ≤ 7) (h : w.heap[bp]? = some (.cells (boxD nx mb A n c) 112 (0, 0))) : (w.setCell ⟨bp, s.toNat, none⟩ (.int .u16 v)).heap[bp]? = some (.cells (boxD (nx.set s.toNat v) mb A n c) 112 (0, 0)) := by
  simp only [World.setCell, Array.getElem?_modify, if_pos, h, Option.map_some]
  rw [if_neg (by decide)]
  unfold boxD
  rw [List.setIfInBounds_toArray, List.set_append_left _ _ (by simp [hl]; omega), List.map_set]
/-- A desk one more message of which is ready. -/
def rdyD (d : Ds) (m : Cm) : Ds := ⟨d.nx, d.ws, d.rd ++ [m]⟩
theorem MO.mv {m : Mg} {r : Option Nat} (h : MO w m) (hm : Mv w w' bp mb r) (h1 : NoTxt w bp) (h2 : NoTxt w mb) (h3 : ∀ k, r = some k → NoTxt w k) : MO w' m := by
  have h : w.ownsRow 0 5 1 (.slice m.A m.x.length m.c) m.x.length (m.x.map (.int .u8)) := h
  rcases h with ⟨h0, ⟨e, hn⟩ | ⟨g, cap, cur, e, hb, hg, hr⟩⟩
  · exact ⟨h0, .inl ⟨e, hn⟩⟩
  · refine ⟨h0, .inr ⟨g, cap, cur, e, hb, (hm.block g (Array.getElem?_eq_some_iff.1 hg).1 ?_ ?_ ?_).trans hg, hr⟩⟩
    · rintro rfl; exact h1 _ _ hg
    · rintro rfl; exact h2 _ _ hg
    · intro e; exact h3 g e.symm _ _ hg
theorem Dk.nt (h : Dk w bp mb n d f L A c) : ∀ k, blk A = some k → NoTxt w k := fun k e => by
  cases hA : A with
  | none => rw [hA] at e; cases e
  | some a =>
    rw [hA] at e
    cases e
    exact h.ntA a hA
theorem newM (X : World) (m : Mg) {b : Nat} (hb : b = X.heap.size) (j : Nat) (u : Value) (h : m.cells[j]? = some u) : (X.alloc (.cells #[.int .i64 m.s, .bool m.u, .slice m.A m.x.length m.c] 34)).cell? ((⟨b, 0, none⟩ : Addr).add j) = some u := by
  rw [add_at, Nat.zero_add]
  rw [(box_at (box_new X (.cells #[.int .i64 m.s, .bool m.u, .slice m.A m.x.length m.c] 34) hb) j).1]
  simpa [Mg.cells] using h
theorem MO.keptO {m : Mg} {row : Option Nat} (h : MO w m) (hg : w.grownBy w' row) (hn : ∀ k, row = some k → NoTxt w k) : MO w' m := by
  cases row with
  | none => exact h.grown hg
  | some b => exact h.kept hg (hn b rfl)
theorem RO.ty (h : RO w A c L) : ∀ a, A = some a → ∃ cur, w.heap[a.block]? = some (.cells cur 34 (0, 0)) := by
  rintro a rfl
  rcases h with ⟨h1, _⟩ | ⟨g, off, h1, ⟨cur, hg, _⟩, _⟩
  · cases h1
  · cases h1
    exact ⟨cur, hg⟩
theorem noTxt_kept {row : Option Nat} {b : Nat} (h : NoTxt w b) (hb : w'.heap[b]? = w.heap[b]?) : NoTxt w' b := fun cur fr e => h cur fr (hb ▸ e)
theorem come_fin {w3 w2 : World} {A2 : Option Addr} {c2 : Nat} {m' : Mg} (h : Dk w3 bp mb n d f L A c) (h03 : Below w.heap.size w w3) (hw : Dk w bp mb n d f L A c) (hg2 : w3.grownBy w2 (blk A)) (hr2 : RO w2 A2 c2 (L ++ [m'])) (hm : MO w3 m') (hn2 : blk A2 = blk A ∨ blk A2 = some w3.heap.size) :
    Dk (w2.setCell ⟨bp, 9, none⟩ (.slice A2 (L.length + 1) c2)) bp mb n (rdyD d m'.cm) f (L ++ [m']) A2 c2 ∧ Mv w (w2.setCell ⟨bp, 9, none⟩ (.slice A2 (L.length + 1) c2)) bp mb (blk A) ∧ Nw w (blk A) (blk A2) := by
  have hbp2 : w2.heap[bp]? = some (.cells (boxD d.nx mb A L.length c) 112 (0, 0)) := (hg2.block bp h.lt.1 h.bne.1).trans h.box
  have gs := grown_setAt w2 bp 9 (.slice A2 (L.length + 1) c2)
  have hnb : NoTxt w2 bp := fun cur fr e => by rw [hbp2] at e; cases e
  have hs := h03.size
  refine ⟨⟨?_, h.nxl, ?_, h.fm, fun k m e => ((h.fok k m e).keptO hg2 h.nt).kept gs hnb, ?_, ?_, fun m hm2 => ?_⟩, ?_, ?_⟩
  · have := set9 h.nxl A2 (L.length + 1) c2 hbp2
    simpa [rdyD] using this
  · exact (h.map.kept hg2 h.bne.2).kept gs (fun e => h.ne (Option.some.inj e).symm)
  · refine hr2.block fun a e => gs.block _ (hr2.lt a e) fun e2 => ?_
    obtain ⟨cur, hc⟩ := hr2.ty a e
    rw [Option.some.inj e2, hbp2] at hc
    cases hc
  · rw [List.map_append, h.rdm]
    rfl
  · refine MO.kept ?_ gs hnb
    rcases List.mem_append.1 hm2 with hm2 | hm2
    · exact (h.rok m hm2).keptO hg2 h.nt
    · rw [List.mem_singleton.1 hm2]
      exact hm.keptO hg2 h.nt
  · have m1 : Mv w w3 bp mb (blk A) := Mv.of_below h03
    have m2 : Mv w3 w2 bp mb (blk A) := Mv.grown hg2 fun k e => .inr (.inr (.inl e.symm))
    have m3 : Mv w2 (w2.setCell ⟨bp, 9, none⟩ (.slice A2 (L.length + 1) c2)) bp mb (blk A) := Mv.grown gs fun k e => .inl (Option.some.inj e).symm
    exact (m1.trans m2 (Nw.refl _ _)).trans m3 (Nw.refl _ _)
  · rcases hn2 with h | h
    · exact .inl h
    · exact .inr ⟨_, h, hs⟩
set_option maxHeartbeats 2000000 in
theorem come_calls (w : World) (bp mb n : Nat) (d : Ds) (f : SK → Option Mg) (L : List Mg) (A : Option Addr) (c : Nat) (h : Dk w bp mb n d f L A c) (m : Mg) (ht : Txt w m.A m.x) (hn : m.A = none → m.c = 0) (hl : m.x.length ≤ 1000000) (hL : L.length < 1000000) :
    Calls Try.prog 54 #[.pointer (some ⟨bp, 0, none⟩), .agg #[.int .i64 m.s, .bool m.u, .slice m.A m.x.length m.c]] w fun e w' => e = .returned (.tuple #[]) ∧ ∃ A' c' m', m'.cm = m.cm ∧ Dk w' bp mb n (rdyD d m.cm) f (L ++ [m']) A' c' ∧ Mv w w' bp mb (blk A) ∧ Nw w (blk A) (blk A') := by
  have H := hid h
  have HT := hid ht
  have HN := hid hn
  have hlt := h.lt
  obtain ⟨W, hW⟩ : ∃ W, W = w.alloc (.cells #[.int .i64 m.s, .bool m.u, .slice m.A m.x.length m.c] 34) := ⟨_, rfl⟩
  have hWs : W.heap.size = w.heap.size + 1 := by rw [hW]; simp
  have HBW : Hid (Below w.heap.size w W) := hid (by rw [hW]; exact below_alloc (Below.refl _ _) _)
  have HMB : Hid (MB W w.heap.size m.s m.u m.A m.x.length m.c) := hid (by rw [hW]; exact MB.new w m.s m.u m.A m.x.length m.c rfl)
  have HD := hid (H.out.below HBW.out)
  have p9 := HD.out.c9
  obtain ⟨m0, m1, m2, mf⟩ := HMB.out
  have HWW := hid hW
  clear h ht hn hW
  go_enter Try.func54, Try.ntmps54
  go_wp2_with fail
  rw [← HWW.out]
  have HRS : Hid (∀ X, Below W.heap.size W X → Dk X bp mb n d f L A c ∧ MB X w.heap.size m.s m.u m.A m.x.length m.c ∧ Below w.heap.size w X) := hid fun X hX => ⟨HD.out.below hX, HMB.out.below hX, HBW.out.trans (hX.mono (by omega))⟩
  go_region_law (first
    | (go_simp; go_at_call 55; refine (copied_calls m _ (HT.out.below (HRS.out _ (by first | exact Below.refl _ _ | exact Below.drew (Below.refl _ _))).2.2) HN.out hl).mono ?_
       rintro e w1 ⟨A', c', rfl, HO1, HB1⟩
       have hx1 : Below W.heap.size W w1 := by first | exact HB1.out | exact (Below.drew (Below.refl _ _)).trans HB1.out
       have q9 := (HRS.out w1 hx1).1.c9
       have hbl1 : bp < w1.heap.size := (HRS.out w1 hx1).1.lt.1
       have HX1 := hid hx1
       clear hx1)
    | (refine step_appM rfl (.tmp 8) (.tmp 11) rfl A c L L.length rfl (by simp [Act.eval, Act.put]) ((HRS.out w1 HX1.out).1.rdy.below (below_alloc (Below.refl _ _) _)) ⟨w1.heap.size, 0, none⟩ 1 (m.at A' c') (by simp [Act.eval, Act.put]) (newM w1 (m.at A' c') rfl) (by omega) ?_
       intro A2 c2 w2 hr2 hg2 hn2
       have hD3 := (HRS.out w1 HX1.out).1.below (below_alloc (Below.refl _ _) (.cells #[.int .i64 m.s, .bool m.u, .slice A' m.x.length c'] 34))
       have hbp2 : w2.heap[bp]? = some (.cells (boxD d.nx mb A L.length c) 112 (0, 0)) := (hg2.block bp hD3.lt.1 hD3.bne.1).trans hD3.box
       have r9 : w2.cell? ⟨bp, 9, none⟩ = some (.slice A L.length c) := ((box_at hbp2 9).1).trans (boxD_get HD.out.nxl mb A L.length c).2.2
       have rf : w2.frozen? ⟨bp, 9, none⟩ = false := (box_at hbp2 9).2
       have HB2 := hid hbp2
       have HR2 := hid hr2
       have HG2 := hid hg2
       have HN2 := hid hn2
       have HD3 := hid hD3
       clear hbp2 hr2 hg2 hn2 hD3)
    | fail)
  all_goals
    go_end0
    refine ⟨rfl, A2, c2, m.at A' c', rfl, ?_⟩
    have hb3 : Below w.heap.size w (w1.alloc (.cells #[.int .i64 m.s, .bool m.u, .slice A' m.x.length c'] 34)) := (HRS.out w1 HX1.out).2.2.alloc (by have := (HRS.out w1 HX1.out).2.2.size; omega) _
    have hmo : MO (w1.alloc (.cells #[.int .i64 m.s, .bool m.u, .slice A' m.x.length c'] 34)) (m.at A' c') := MO.below (own_low HO1.out (Nat.zero_le _)) (below_alloc (Below.refl _ _) _)
    exact come_fin HD3.out hb3 H.out HG2.out HR2.out hmo HN2.out
end Go.Proofs.Ythoammfpjheodaa.Or
