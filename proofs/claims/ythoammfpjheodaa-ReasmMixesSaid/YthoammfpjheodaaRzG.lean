import Derived.Test.YthoammfpjheodaaRzF
namespace Go.Proofs.Ythoammfpjheodaa.Rz
open Go.ChangeShapes Go.WideShapes Go.ChangeAt Go.RowKit Go.Shelf MK
open Base (hid cell_new1 cell_old1 froz_new1 froz_old1)
attribute [local go_sem] Oper.semAt_some
set_option linter.unusedVariables false
set_option linter.unusedSimpArgs false
set_option maxRecDepth 100000
/-- A world that went on, in which what was lies as it lay but for a bench. -/
structure Mv (w w' : World) (bp mb : Nat) : Prop where
  os : w'.os = w.os
  tape : w'.tape = w.tape
  output : w'.output = w.output
  size : w.heap.size ≤ w'.heap.size
  block : ∀ k, k < w.heap.size → k ≠ bp → k ≠ mb → w'.heap[k]? = w.heap[k]?
theorem Mv.of_below {w w' : World} {bp mb : Nat} (h : Below w.heap.size w w') : Mv w w' bp mb := ⟨h.os, h.tape, h.output, h.size, fun k hk _ _ => h.block k hk⟩
theorem Mv.trans {a b c : World} {bp mb : Nat} (h : Mv a b bp mb) (k : Mv b c bp mb) : Mv a c bp mb :=
  ⟨k.os.trans h.os, k.tape.trans h.tape, k.output.trans h.output, Nat.le_trans h.size k.size, fun i h1 h2 h3 => (k.block i (Nat.lt_of_lt_of_le h1 h.size) h2 h3).trans (h.block i h1 h2 h3)⟩
theorem Mv.grown {w w' : World} {bp mb b : Nat} (h : w.grownBy w' (some b)) (hb : b = bp ∨ b = mb) : Mv w w' bp mb :=
  ⟨h.os, h.tape, h.output, h.size, fun k hk h1 h2 => h.block k hk (fun e => by have := Option.some.inj e; rcases hb with rfl | rfl <;> omega)⟩
theorem mem_app_ok {w w' : World} {m : List Pm} {p : Pm} (h : ∀ q ∈ m, Ok w' q) (hp : Ok w' p) : ∀ q ∈ m ++ [p], Ok w' q := fun q hq => by
  rcases List.mem_append.1 hq with hq | hq
  · exact h q hq
  · rw [List.mem_singleton.1 hq]; exact hp
theorem Txt.set {w : World} {A : Option Addr} {x : List Int} {a0 : Addr} {z : Int} (h : Txt w A x) (hc : w.cell? a0 = some (.int .i64 z)) (v : Value) : Txt (w.setCell a0 v) A x := by
  intro i hi
  obtain ⟨ad, e, hl, hcc⟩ := h i hi
  refine ⟨ad, e, by simpa [World.setCell] using hl, ?_⟩
  rw [World.cell?_setCell_other]
  · exact hcc
  · intro e2
    rw [← e2, hc] at hcc
    cases hcc
theorem Ok.set {w : World} {p : Pm} {a0 : Addr} {z : Int} (h : Ok w p) (hc : w.cell? a0 = some (.int .i64 z)) (v : Value) : Ok (w.setCell a0 v) p := ⟨h.txt.set hc v, h.nil, h.u, h.l⟩
/-- A text lies in no map, and in no bench. -/
theorem Bn.apart {w : World} {bp mb n : Nat} {m : List Pm} (h : Bn w bp mb n m) {A : Option Addr} {x : List Int} (ht : Txt w A x) {i : Nat} (hi : i < x.length) : ∃ ad, A = some ad ∧ ad.block ≠ mb ∧ ad.block < w.heap.size := by
  obtain ⟨ad, e, hl, hc⟩ := ht i hi
  refine ⟨ad, e, ?_, hl⟩
  intro e2
  obtain ⟨D, ⟨es, clock, hb, _⟩, _⟩ := h.map
  have hc2 : w.cell? (ad.add i) = none := by
    unfold World.cell?
    rw [add_block, e2, hb]
  rw [hc2] at hc
  cases hc
theorem Bn.txt {w w' : World} {bp mb n : Nat} {m : List Pm} (h : Bn w bp mb n m) {A : Option Addr} {x : List Int} (ht : Txt w A x) (hs : w.heap.size ≤ w'.heap.size) (hk : ∀ k, k < w.heap.size → k ≠ mb → w'.heap[k]? = w.heap[k]?) : Txt w' A x := by
  intro i hi
  obtain ⟨ad, e, hl, hc⟩ := ht i hi
  obtain ⟨ad', e', hne, _⟩ := h.apart ht hi
  rw [e] at e'
  cases e'
  refine ⟨ad, e, Nat.lt_of_lt_of_le hl hs, (World.cell?_of_block (w := w) (a := ad.add i) ?_).trans hc⟩
  rw [add_block]
  exact hk _ hl hne
theorem Bn.ok' {w w' : World} {bp mb n : Nat} {m : List Pm} (h : Bn w bp mb n m) {p : Pm} (hp : Ok w p) (hs : w.heap.size ≤ w'.heap.size) (hk : ∀ k, k < w.heap.size → k ≠ mb → w'.heap[k]? = w.heap[k]?) : Ok w' p := ⟨h.txt hp.txt hs hk, hp.nil, hp.u, hp.l⟩
theorem keys_app (m : List Pm) (p : Pm) : keys (m ++ [p]) = keys m ++ [p.t] := by unfold keys; simp
theorem nodup_app {m : List Pm} {p : Pm} (h : (keys m).Nodup) (hl : look m p.t = none) : (keys (m ++ [p])).Nodup := by
  rw [keys_app]
  refine List.nodup_append.2 ⟨h, by simp, fun a ha b hb e => ?_⟩
  rw [List.mem_singleton.1 hb] at e
  obtain ⟨q, hq, hqt⟩ := List.mem_map.1 ha
  exact look_none hl q hq (hqt.trans e)
theorem fP_app {m : List Pm} {p p' : Pm} (ht : p'.t = p.t) (hl : look m p.t = none) (y : Int) : upd (fP m) p.t (some p'.val) y = fP (m ++ [p']) y := by
  unfold upd fP
  rw [look_app m p' y (by rw [ht]; exact hl), ht]
  split <;> rfl
set_option maxHeartbeats 1000000 in
theorem lay_calls (w : World) (bp mb n : Nat) (m : List Pm) (p : Pm) (h : Bn w bp mb n m) (hn : n < 1000000) (hp : Ok w p) (hl : look m p.t = none) (hh : held m ≤ 1000000000) :
    Calls Try.prog 48 #[.pointer (some ⟨bp, 0, none⟩), p.val] w fun e w' => ∃ v A' c', e = .returned v ∧ Bn w' bp mb (n + 1) (m ++ [{ p with A := A', c := c' }]) ∧ Mv w w' bp mb ∧ w'.ownsRow w.heap.size 5 1 (.slice A' p.x.length c') p.x.length (p.x.map (.int .u8)) := by
  have H := hid h
  have hlt := h.lt
  have HP := hid hp
  have hv : p.val = .agg #[.int .u32 p.t, .int .u16 p.s, .int .u16 p.q, .bool p.b, .bool p.e, .bool p.u, .slice p.A p.x.length p.c] := rfl
  have HV := hid hv
  rw [hv]
  clear hv h hp
  have HB0 : Hid (Below w.heap.size w (w.alloc (.cells #[.int .u32 p.t, .int .u16 p.s, .int .u16 p.q, .bool p.b, .bool p.e, .bool p.u, .slice p.A p.x.length p.c] 40))) := hid (below_alloc (Below.refl _ _) _)
  have HX0 := hid (Box.new w p)
  obtain ⟨W, hW⟩ : ∃ W, W = w.alloc (.cells #[.int .u32 p.t, .int .u16 p.s, .int .u16 p.q, .bool p.b, .bool p.e, .bool p.u, .slice p.A p.x.length p.c] 40) := ⟨_, rfl⟩
  rw [← hW] at HB0 HX0
  have hWs : W.heap.size = w.heap.size + 1 := by rw [hW]; simp
  have hS : ∀ w' : World, (∀ k, k < W.heap.size → k ≠ mb → w'.heap[k]? = W.heap[k]?) → w'.cell? ⟨bp, 0, none⟩ = some (.map (some mb)) ∧ w'.cell? ⟨w.heap.size, 0, none⟩ = some (.int .u32 p.t) ∧ w'.cell? ⟨w.heap.size, 1, none⟩ = some (.int .u16 p.s) ∧ w'.cell? ⟨w.heap.size, 2, none⟩ = some (.int .u16 p.q) ∧ w'.cell? ⟨w.heap.size, 3, none⟩ = some (.bool p.b) ∧ w'.cell? ⟨w.heap.size, 4, none⟩ = some (.bool p.e) ∧ w'.cell? ⟨w.heap.size, 5, none⟩ = some (.bool p.u) ∧ w'.cell? ⟨w.heap.size, 6, none⟩ = some (.slice p.A p.x.length p.c) := by
    intro w' hk
    have hbx : Box w' w.heap.size p := HX0.out.block (hk _ (by omega) (by have := hlt.2; omega))
    exact ⟨(World.cell?_of_block (w := W) (a := ⟨bp, 0, none⟩) (hk bp (by omega) H.out.ne)).trans ((HB0.out.cell (p := ⟨bp, 0, none⟩) hlt.1).trans H.out.ptr), hbx.c0, hbx.c1, hbx.c2, hbx.c3, hbx.c4, hbx.c5, hbx.c6⟩
  have HSS := hid hS
  clear hS
  have HPW := hid (HP.out.below HB0.out)
  have HBW := hid (H.out.below HB0.out)
  go_enter Try.func48, Try.ntmps48
  go_wp2
  rw [← hW]
  have HWW := hid hW
  clear hW
  go_region_held3 (fun w' => w'.cell? ⟨bp, 0, none⟩ = some (.map (some mb)) ∧ w'.cell? ⟨w.heap.size, 0, none⟩ = some (.int .u32 p.t) ∧ w'.cell? ⟨w.heap.size, 1, none⟩ = some (.int .u16 p.s) ∧ w'.cell? ⟨w.heap.size, 2, none⟩ = some (.int .u16 p.q) ∧ w'.cell? ⟨w.heap.size, 3, none⟩ = some (.bool p.b) ∧ w'.cell? ⟨w.heap.size, 4, none⟩ = some (.bool p.e) ∧ w'.cell? ⟨w.heap.size, 5, none⟩ = some (.bool p.u) ∧ w'.cell? ⟨w.heap.size, 6, none⟩ = some (.slice p.A p.x.length p.c)) ((refine HSS.out _ ?_; first | exact (fun k hk _ => rfl) | assumption)) ((go_at_call 80; rw [← HV.out]; refine (copied_calls p _ (HPW.out.below (Below.drew (Below.refl _ _)))).mono ?_; rintro e w1 ⟨A', c', rfl, ho1, hb1⟩; have HO1 := hid ho1; have HB1 := hid hb1; obtain ⟨w3, hrun, hM, hT⟩ := ((HBW.out.below (Below.drew (Below.refl _ _))).below hb1).map.store Try.underlying102 (by unfold maxLen; omega) p.t (u_wf HP.out.u) (Pm.val { p with A := A', c := c' }); have hrun2 : (Instr.mapUpdate 102 (.map (some mb)) (.int .u32 p.t) (Pm.val { p with A := A', c := c' })).run Try.prog w1 = .ok () w3 := hrun; have HM := hid hM; have HT := hid hT; have hkk : ∀ k, k < W.heap.size → k ≠ mb → w1.heap[k]? = W.heap[k]? := fun k hk _ => hb1.block k hk; have hkk3 : ∀ k, k < W.heap.size → k ≠ mb → w3.heap[k]? = W.heap[k]? := (fun k hk hne => (hT.grown.block k (Nat.lt_of_lt_of_le hk hb1.size) (fun e => hne (by cases e; rfl))).trans (hb1.block k hk)); clear ho1 hb1 hM hT hrun))
  have hbp3 : w3.heap[bp]? = w.heap[bp]? := (hkk3 bp (by omega) H.out.ne).trans (HB0.out.block bp hlt.1)
  have e0 : w3.cell? ⟨bp, 0, none⟩ = some (.map (some mb)) := (World.cell?_of_block (a := ⟨bp, 0, none⟩) hbp3).trans H.out.ptr
  have e1 : w3.cell? ⟨bp, 1, none⟩ = some (.int .i64 (held m : Nat)) := (World.cell?_of_block (a := ⟨bp, 1, none⟩) hbp3).trans H.out.hel
  have f1 : w3.frozen? ⟨bp, 1, none⟩ = false := (World.frozen?_of_block (a := ⟨bp, 1, none⟩) hbp3).trans H.out.fr
  have hbx : Box w3 w.heap.size p := HX0.out.block (hkk3 _ (by omega) (by have := hlt.2; omega))
  obtain ⟨x0, x1, x2, x3, x4, x5, x6, xf⟩ := hbx
  have hpl := HP.out.l
  have hws : wrap64 ((held m : Int) + (p.x.length : Int)) = (held m : Int) + (p.x.length : Int) := by unfold wrap64; omega
  have HK3 := hid hkk3
  have HKK := hid hkk
  have HRUN := hid hrun2
  have HBP3 := hid hbp3
  clear hkk hkk3 hrun2 hbp3
  go_wp2
  go_region
  go_end0
  have hT := HT.out
  have hM := HM.out
  have hs1 := HB1.out.size
  have hs3 := hT.grown.size
  have hsW : w.heap.size ≤ w3.heap.size := by
    have := HB0.out.size
    have e : W.drew.heap.size = W.heap.size := rfl
    omega
  have hk3 : ∀ k, k < w.heap.size → k ≠ mb → w3.heap[k]? = w.heap[k]? := fun k hk hne => (HK3.out k (by omega) hne).trans (HB0.out.block k hk)
  have hfl : (fP m p.t).isSome = false := by unfold fP; rw [hl]; rfl
  rw [hfl] at hM
  simp only [Bool.false_eq_true, if_false] at hM
  have hT1 : Txt w3 A' p.x := (txt_row HO1.out).kept hT.grown.size (fun ad e => hT.grown.block _ (by
      have := (own_base HO1.out (k := ad.block) (by rw [e]; rfl)).2; exact this) (fun e2 => by
      have h1 := (own_base HO1.out (k := ad.block) (by rw [e]; rfl)).1
      have h2 := Option.some.inj e2
      have := hlt.2
      have e : W.drew.heap.size = W.heap.size := rfl
      omega))
  have hgs := grown_setAt w3 bp 1 (.int .i64 ((held m : Int) + (p.x.length : Int)))
  refine ⟨_, A', c', rfl, ⟨?_, ?_, ?_, ?_, nodup_app H.out.nod hl, ?_, ?_⟩, ?_, ?_⟩
  · exact (World.cell?_setCell_other _ _ _ _ (by simp)).trans e0
  · refine (World.cell?_setCell_same _ _ _ e1).trans ?_
    rw [held_app]
    simp
  · show (w3.setCell ⟨bp, 1, none⟩ _).frozen? _ = false
    simpa using f1
  · have h2 := (hM.ext (g := fP (m ++ [{ p with A := A', c := c' }])) fun y _ => fP_app (p := p) (p' := { p with A := A', c := c' }) rfl hl y).block (w' := (w3.setCell ⟨bp, 1, none⟩ (.int .i64 ((held m : Int) + (p.x.length : Int)))).drew) (hgs.block mb hM.lt (fun e => H.out.ne (Option.some.inj e).symm))
    rw [List.length_append]
    exact h2
  · intro q hq
    rcases List.mem_append.1 hq with hq | hq
    · exact ((H.out.ok' (H.out.ok q hq) hsW hk3).set e1 _).below (Below.drew (Below.refl _ _))
    · rw [List.mem_singleton.1 hq]
      exact (Ok.set (p := { p with A := A', c := c' }) ⟨hT1, fun e => nil_row (by have := HO1.out; rw [show A' = none from e] at this; exact this), HP.out.u, HP.out.l⟩ e1 _).below (Below.drew (Below.refl _ _))
  · intro q hq ad e
    rcases List.mem_append.1 hq with hq | hq
    · exact H.out.far q hq ad e
    · rw [List.mem_singleton.1 hq] at e
      have h1 := (own_base HO1.out (k := ad.block) (by rw [show A' = some ad from e]; rfl)).1
      have e3 : W.drew.heap.size = W.heap.size := rfl
      have := hlt.1
      omega
  · have h1 : Mv w w3 bp mb := ⟨hT.grown.os.trans (HB1.out.os.trans HB0.out.os), hT.grown.tape.trans (HB1.out.tape.trans HB0.out.tape), hT.grown.output.trans (HB1.out.output.trans HB0.out.output), hsW, fun k h1 _ h3 => hk3 k h1 h3⟩
    exact (h1.trans (Mv.grown hgs (.inl rfl))).trans (Mv.of_below (Below.drew (Below.refl _ _)))
  · have h1 := HO1.out.kept hT.grown (by
      rcases hb : (Value.slice A' p.x.length c').ownBlock with _ | q
      · exact .inl rfl
      · refine .inr fun e => ?_
        have h1 := (own_base HO1.out hb).1
        have h2 := Option.some.inj e
        have := hlt.2
        have e : W.drew.heap.size = W.heap.size := rfl
        omega)
    have h2 := h1.kept hgs (by
      rcases hb : (Value.slice A' p.x.length c').ownBlock with _ | q
      · exact .inl rfl
      · refine .inr fun e => ?_
        have h1 := (own_base HO1.out hb).1
        have h2 := Option.some.inj e
        have := hlt.1
        have e : W.drew.heap.size = W.heap.size := rfl
        omega)
    exact own_low (Base.ownsRow_later h2 (Below.drew (Below.refl _ _))) (by
      have e : W.drew.heap.size = W.heap.size := rfl
      omega)
end Go.Proofs.Ythoammfpjheodaa.Rz
