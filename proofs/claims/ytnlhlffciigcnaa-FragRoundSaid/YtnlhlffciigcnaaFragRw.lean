import Derived.Test.YtnlhlffciigcnaaFragRd
namespace Go.Proofs.Ytnlhlffciigcnaa.QFrag
open Go.RowKit Go.Proofs.YtnlhlffciigcnaaW.PrintWords Go.Proofs.YtnlhlffciigcnaaW.PrintLast Go.Proofs.YtnlhlffciigcnaaW.PrintMore Go.ChangeShapes Go.WideShapes Go.ChangeAt Go.Shelf
open Base (hid slice_of_row ret_bool cell_new1 cell_old1 froz_new1 froz_old1)
open Go.Joins (cell_of_block unfrozen_of_block)
attribute [local go_sem] Oper.semAt_some
set_option linter.unusedVariables false
theorem results_cell4 {fn : Func} (h : fn.results = #[.cell 4 4]) {tmps : Array Value} {a : Addr} {b : Bool} {w : World} (ht : tmps[4]? = some (.pointer (some a))) (hc : w.cell? a = some (.bool b)) :
    (results fn tmps).run Try.prog w = .ok (.bool b) w := by
  simp only [results, h]
  simp [go_sem, hc, Sem.run_bind, Array.getD_eq_getD_getElem?, ht]
theorem R_made0 {α : Type} (d : Kd α) (e : Nat) (w : World) {B : Nat} {ok : Nat → Prop} (hB : B ≤ w.heap.size) (hok : ok w.heap.size) : Kd.R d e (w.alloc (.cells #[] e)) B ok (.slice (some ⟨w.heap.size, 0, none⟩) 0 0) [] :=
  ⟨fun k hk => by simp [Value.ownBlock] at hk; rw [← hk]; exact hok, [], World.ownsRow_made w #[] 0 hB (by decide) (by simp), Reps.none _ _⟩
theorem own_some {W : World} {B n : Nat} {e : TypeId} {size : Nat} {v : Value} {xs : List Value} (h : W.ownsRow B e size v n xs) (hn : 0 < n) : ∃ g c, v = .slice (some ⟨g, 0, none⟩) n c ∧ B ≤ g := by
  rcases h.2 with ⟨_, h0⟩ | ⟨g, cap, cur, rfl, hb, _⟩
  · omega
  · exact ⟨g, cap, rfl, hb⟩
/-- How the first loop stands. -/
structure RdSt (w : World) (b6 : Nat) (wr : World) (v5 : Value) (xs : List S93) (t q z : Int) : Prop where
  big : w.heap.size + 2 ≤ b6
  lt : b6 < wr.heap.size
  c0 : wr.cell? ⟨b6, 0, none⟩ = some (.int .u32 t)
  c1 : wr.cell? ⟨b6, 1, none⟩ = some (.int .u16 q)
  c2 : wr.cell? ⟨b6, 2, none⟩ = some (.int .i64 z)
  fr : ∀ j, wr.frozen? ⟨b6, j, none⟩ = false
  c4 : wr.cell? ⟨w.heap.size + 1, 0, none⟩ = some (.bool false)
  f4 : wr.frozen? ⟨w.heap.size + 1, 0, none⟩ = false
  row : Kd.R k93 93 wr (w.heap.size + 2) (fun k => k ≠ b6) v5 xs
  below : Below w.heap.size w wr
theorem RdSt.later {w : World} {b6 : Nat} {wr wr' : World} {v5 : Value} {xs : List S93} {t q z : Int} (h : RdSt w b6 wr v5 xs t q z) (hb : Below wr.heap.size wr wr') : RdSt w b6 wr' v5 xs t q z := by
  have hb6 := h.lt
  have hbg := h.big
  have hs := hb.size
  exact ⟨h.big, by omega, (hb.cell (p := ⟨b6, 0, none⟩) h.lt).trans h.c0, (hb.cell (p := ⟨b6, 1, none⟩) h.lt).trans h.c1, (hb.cell (p := ⟨b6, 2, none⟩) h.lt).trans h.c2, fun j => (World.frozen?_of_block (hb.block b6 h.lt)).trans (h.fr j),
    (hb.cell (p := ⟨w.heap.size + 1, 0, none⟩) (by show w.heap.size + 1 < _; omega)).trans h.c4, (World.frozen?_of_block (hb.block (w.heap.size + 1) (by omega))).trans h.f4, Kd.R_below h.row hb, h.below.trans (hb.mono h.below.size)⟩
/-- Of the blocks below n₀ only f and the next may have changed. -/
structure Sp2 (f n₀ : Nat) (W W' : World) : Prop where
  os : W'.os = W.os
  tape : W'.tape = W.tape
  output : W'.output = W.output
  size : W.heap.size ≤ W'.heap.size
  block : ∀ k, k < n₀ → (k < f ∨ f + 2 ≤ k) → W'.heap[k]? = W.heap[k]?
theorem Sp2.refl (f n₀ : Nat) (W : World) : Sp2 f n₀ W W := ⟨rfl, rfl, rfl, Nat.le_refl _, fun _ _ _ => rfl⟩
theorem Sp2.trans {f n₀ : Nat} {A B C : World} (h : Sp2 f n₀ A B) (k : Sp2 f n₀ B C) : Sp2 f n₀ A C := ⟨k.os.trans h.os, k.tape.trans h.tape, k.output.trans h.output, Nat.le_trans h.size k.size, fun j h1 h2 => (k.block j h1 h2).trans (h.block j h1 h2)⟩
theorem Sp2.of {f n₀ : Nat} {A B : World} {row : Option Nat} (hg : A.grownBy B row) (hn : n₀ ≤ A.heap.size) (hr : ∀ r, row = some r → (f ≤ r ∧ r < f + 2) ∨ n₀ ≤ r) : Sp2 f n₀ A B :=
  ⟨hg.os, hg.tape, hg.output, hg.size, fun k h1 h2 => hg.block k (by omega) (fun e => by have := hr k e.symm; omega)⟩
theorem Sp2.grown {f n₀ : Nat} {W A B : World} {row : Option Nat} (h : Sp2 f n₀ W A) (hg : A.grownBy B row) (hn : n₀ ≤ A.heap.size) (hr : ∀ r, row = some r → (f ≤ r ∧ r < f + 2) ∨ n₀ ≤ r) : Sp2 f n₀ W B := h.trans (Sp2.of hg hn hr)
theorem Sp2.cell {f n₀ : Nat} {W W' : World} (h : Sp2 f n₀ W W') {p : Addr} (h1 : p.block < n₀) (h2 : p.block < f ∨ f + 2 ≤ p.block) : W'.cell? p = W.cell? p := World.cell?_of_block (w := W) (h.block p.block h1 h2)
theorem Sp2.below {f n₀ : Nat} {w W W' : World} (h : Sp2 f n₀ W W') (hb : Below w.heap.size w W) (hf : w.heap.size ≤ f) (hn : w.heap.size ≤ n₀) : Below w.heap.size w W' :=
  ⟨h.os.trans hb.os, h.tape.trans hb.tape, h.output.trans hb.output, Nat.le_trans hb.size h.size, fun k hk => (h.block k (by omega) (.inl (by omega))).trans (hb.block k hk)⟩
theorem Sp2.keep {f n₀ lo : Nat} {W W' : World} (h : Sp2 f n₀ W W') (hlo : f + 2 ≤ lo) : KeepR lo n₀ W W' := ⟨h.size, fun b h1 h2 => h.block b h2 (.inr (by omega))⟩
theorem R_otherG {α : Type} {d : Kd α} {e : Nat} {W W' : World} {B : Nat} {ok : Nat → Prop} {v : Value} {xs : List α} {row : Option Nat} (h : Kd.R d e W B ok v xs) (hg : W.grownBy W' row) (hr : ∀ k, row = some k → ∃ o : Obj, W.heap[k]? = some o ∧ o.isCells = false) : Kd.R d e W' B ok v xs :=
  Kd.R_mono (Kd.R_step (Kd.R_bound h) (fun k hk hlt => hg.block k hlt (fun e => by
    obtain ⟨o, ho, hc⟩ := hr k e.symm
    obtain ⟨q, _, cells, hq⟩ := hk.2.2.2
    rw [hq] at ho
    cases ho
    cases hc))) (fun _ h => h.1)
theorem belowK_b {B : Nat} {w : World} (hn : B ≤ w.heap.size) (W : World) (l : Nat) (o o' : Obj) (hl : w.heap.size ≤ l) (h : W.heap[l]? = some o) (_ : o.isCells = false) (_ : o.isWalk = false) : Below B W (W.putObj l o') :=
  (Below.refl B W).grown (grownBy_putObj' W l o') (by have := (Array.getElem?_eq_some_iff.1 h).1; omega) (fun k e => by cases e; omega)
/-- What the second loop holds. -/
def InvD (f n₀ : Nat) (W0 : World) (l : List S77) (pre : List (Value × List S93)) (W : World) : Prop :=
  pre.length ≤ l.length ∧ (∃ v, W.cell? ⟨f + 1, 0, none⟩ = some v ∧ W.frozen? ⟨f + 1, 0, none⟩ = false ∧ Kd.R k77 77 W f (fun k => k = f ∨ n₀ ≤ k) v (l.take pre.length)) ∧ Sp2 f n₀ W0 W
theorem invD_own (f n₀ : Nat) (W0 : World) (l : List S77) (h0 : n₀ ≤ W0.heap.size) (B : Nat) (hB : n₀ ≤ B) : OwnFrom B (InvD f n₀ W0 l) := by
  rintro pre A W row ⟨hl, ⟨v, h1, h2, h3⟩, h7⟩ hg hr
  have hr' : ∀ r, row = some r → ∃ o : Obj, A.heap[r]? = some o ∧ o.isCells = false := fun r e => (hr r e).2
  exact ⟨hl, ⟨v, cell_kept h1 hg hr', (frozen_kept h1 hg hr').trans h2, R_otherG h3 hg hr'⟩, h7.grown hg (Nat.le_trans h0 h7.size) (fun r e => .inr (Nat.le_trans hB (hr r e).1))⟩
open It (FW) in
set_option maxRecDepth 100000 in
set_option maxHeartbeats 8000000 in
theorem round_law (A : Option Addr) (c : Nat) (l : List S77) (t q z : Int) (w : World) (hr : Kd.C k77 w A l.length l) (hc : l.length ≤ c) :
    Calls Try.prog 11 #[.slice A l.length c, .agg #[.int .u32 t, .int .u16 q, .int .i64 z]] w fun e w' => e = .returned (.bool true) ∧ Below w.heap.size w w' := by
  obtain ⟨i0, hi, hi0, hi1, hi2⟩ := info_parts info93
  obtain ⟨j0, hj, hj0, hj1, hj2⟩ := info_parts info77
  have f41 : FW.fn 41 := trivial
  have f52 : FW.fn 52 := trivial
  have f80 : FW.fn 80 := trivial
  have f48 : FW.fn 48 := trivial
  refine callsIn_wide.1 (show CallsIn FW 9 Try.prog 11 _ w _ from ?_)
  refine callsIn_of_wp_marks Try.func11 rfl trivial ?_ rfl
  simp only [Try.ntmps11, List.size_toArray, List.length_cons, List.length_nil, Nat.reduceAdd, Nat.reduceSub, Array.replicate_succ, Array.replicate_zero, List.push_toArray, List.append_toArray, List.nil_append, List.cons_append]
  have hl63 := hr.2.1
  have HR := hid hr
  clear hr
  refine wpIn_wide.2 ?_
  have hal : ∀ w1, Below ((w.alloc (.cells #[.int .u32 t, .int .u16 q, .int .i64 z] 79)).alloc (.cells #[.bool false] 4)).heap.size ((w.alloc (.cells #[.int .u32 t, .int .u16 q, .int .i64 z] 79)).alloc (.cells #[.bool false] 4)) w1 →
      (w1.cell? ⟨w.heap.size, 0, none⟩ = some (.int .u32 t) ∧ w1.cell? ⟨w.heap.size, 1, none⟩ = some (.int .u16 q) ∧ w1.cell? ⟨w.heap.size, 2, none⟩ = some (.int .i64 z)) ∧
      (w1.cell? ⟨w.heap.size + 1, 0, none⟩ = some (.bool false) ∧ w1.frozen? ⟨w.heap.size + 1, 0, none⟩ = false) ∧ (w.heap.size + 2 ≤ w1.heap.size ∧ Hid (Below w.heap.size w w1)) := by
    intro w1 hb
    have hz := hb.size
    simp only [World.size_alloc] at hz
    refine ⟨⟨?_, ?_, ?_⟩, ⟨?_, ?_⟩, by omega, hid ((((Below.refl _ w).alloc (Nat.le_refl _) _).alloc (by simp) _).trans (hb.mono (by simp; omega)))⟩
    · rw [hb.cell (p := ⟨w.heap.size, 0, none⟩) (by simp; omega), cell_old1 _ _ _ (by simp), cell_new1 _ _ _ _ rfl]; rfl
    · rw [hb.cell (p := ⟨w.heap.size, 1, none⟩) (by simp; omega), cell_old1 _ _ _ (by simp), cell_new1 _ _ _ _ rfl]; rfl
    · rw [hb.cell (p := ⟨w.heap.size, 2, none⟩) (by simp; omega), cell_old1 _ _ _ (by simp), cell_new1 _ _ _ _ rfl]; rfl
    · rw [hb.cell (p := ⟨w.heap.size + 1, 0, none⟩) (by simp), cell_new1 _ _ _ _ (by simp)]; rfl
    · rw [World.frozen?_of_block (hb.block (w.heap.size + 1) (by simp)), froz_new1 _ _ _ _ (by simp)]
  have HAL := hid hal
  clear hal
  by_cases h10 : 10 < l.length
  · go_wp2_with (go_at_call 41; refine (weftlinelaw16_alive.calls true _ rfl).mono ?_; rintro e w1 ⟨rfl, hb⟩; obtain ⟨⟨c30, c31, c32⟩, ⟨c4, f4⟩, hz, HB⟩ := HAL.out w1 hb; clear hb)
    refine ⟨_, results_cell4 rfl rfl ?_, rfl, ?_⟩
    · exact World.cell?_setCell_same' _ _ _ (by rw [c4]; rfl)
    · exact HB.out.setCell (by simp) _
  · have h10' : l.length ≤ 10 := by omega
    clear h10
    have hd10 : decide ((10 : Int) < (l.length : Int)) = false := by simp; omega
    go_wp2_with (go_at_call 41; refine (weftlinelaw16_alive.calls true _ rfl).mono ?_; rintro e w1 ⟨rfl, hb⟩; obtain ⟨⟨c30, c31, c32⟩, ⟨c4, f4⟩, hz, HB⟩ := HAL.out w1 hb; clear hb)
    have hz1 : w.heap.size < w1.heap.size := by omega
    have hz2 : w.heap.size + 1 < w1.heap.size := by omega
    clear hd10
    go_cut [5, 6] from 5 to 21 (fun v5 v6 wx => ∃ b6 : Nat, v6 = .pointer (some ⟨b6, 0, none⟩) ∧ Hid (RdSt w b6 wx v5 [] t q z))
    case first =>
      have HC4 := hid c4
      have HF4 := hid f4
      clear c4 f4
      go_region
      · go_wp2
        go_meet
        refine ⟨w1.heap.size + 1, rfl, hid ?_⟩
        have hb : Below w1.heap.size w1 (((w1.alloc (.cells #[] 93)).alloc (.cells #[.int .u32 t, .int .u16 q, .int .i64 z] 79)).drew) := below_drew (((Below.refl _ w1).alloc (Nat.le_refl _) _).alloc (by simp) _)
        refine ⟨by omega, by simp, ?_, ?_, ?_, fun j => ?_, (hb.cell (p := ⟨w.heap.size + 1, 0, none⟩) hz2).trans HC4.out, (World.frozen?_of_block (hb.block (w.heap.size + 1) hz2)).trans HF4.out, ?_, HB.out.trans (hb.mono HB.out.size)⟩
        · rw [World.cell?_drew, cell_new1 _ _ _ _ (by simp)]; rfl
        · rw [World.cell?_drew, cell_new1 _ _ _ _ (by simp)]; rfl
        · rw [World.cell?_drew, cell_new1 _ _ _ _ (by simp)]; rfl
        · rw [World.frozen?_drew, froz_new1 _ _ _ _ (by simp)]
        · refine Kd.R_drew (Kd.R_alloc ?_ _)
          exact R_made0 k93 93 w1 (by omega) (by omega)
      · go_wp2
        go_meet
        refine ⟨w1.heap.size, rfl, hid ?_⟩
        have hb : Below w1.heap.size w1 (((w1.alloc (.cells #[.int .u32 t, .int .u16 q, .int .i64 z] 79)).alloc (.cells #[] 93)).drew) := below_drew (((Below.refl _ w1).alloc (Nat.le_refl _) _).alloc (by simp) _)
        refine ⟨by omega, by simp; omega, ?_, ?_, ?_, fun j => ?_, (hb.cell (p := ⟨w.heap.size + 1, 0, none⟩) hz2).trans HC4.out, (World.frozen?_of_block (hb.block (w.heap.size + 1) hz2)).trans HF4.out, ?_, HB.out.trans (hb.mono HB.out.size)⟩
        · rw [World.cell?_drew, cell_old1 _ _ _ (by simp), cell_new1 _ _ _ _ rfl]; rfl
        · rw [World.cell?_drew, cell_old1 _ _ _ (by simp), cell_new1 _ _ _ _ rfl]; rfl
        · rw [World.cell?_drew, cell_old1 _ _ _ (by simp), cell_new1 _ _ _ _ rfl]; rfl
        · rw [World.frozen?_drew, froz_old1 _ _ _ (by simp), froz_new1 _ _ _ _ rfl]
        · refine Kd.R_drew ?_
          have := R_made0 k93 93 (w1.alloc (.cells #[.int .u32 t, .int .u16 q, .int .i64 z] 79)) (B := w.heap.size + 2) (ok := fun k => k ≠ w1.heap.size) (by simp; omega) (by simp)
          rwa [World.size_alloc] at this
    obtain ⟨b6, rfl, HS⟩ := hcut
    clear c30 c31 c32 c4 f4 hz HB hz1 hz2
    go_wp2
    go_loopw [5, 24] (fun v5 v24 wr => ∃ (k : Nat) (cs : List (List S93)) (tk qk : Int), k ≤ l.length ∧ v24 = .int .i64 k ∧ Hid (Cls cs (l.take k)) ∧ Hid (RdSt w b6 wr v5 cs.flatten tk qk z)) (fun _ v24 _ => l.length - (intOf v24).toNat)
    case atStart => exact ⟨0, [], t, q, Nat.zero_le _, rfl, hid trivial, HS⟩
    case round =>
      obtain ⟨k, cs, tk, qk, hk, rfl, HC, HS⟩ := hrel
      by_cases hlt : k < l.length
      · obtain ⟨ad, A2, c2, rfl, h0, h1, h2, hl2, hi2⟩ := at_T77 (Kd.C_below HR.out HS.out.below) (k : Int) (by omega) (by omega)
        rw [Int.toNat_natCast] at h0 h1 h2
        have hkq : (k : Int).toNat = k := Int.toNat_natCast k
        have hrd : rd_T77 l (k : Int) = l[k] := by simp [rd_T77, hlt]
        have htk : l.take (k + 1) = l.take k ++ [l[k]] := List.take_succ_eq_append_getElem hlt
        rw [hrd] at h0 h1 h2 hl2 hi2
        generalize l[k] = m at *
        have HTK := hid htk
        have HI2 := hid hi2
        have HKQ := hid hkq
        have hb6 := HS.out.lt
        have hbg := HS.out.big
        have d4 : w.heap.size + 1 < wr.heap.size := by omega
        clear hrd htk hi2
        by_cases h1000 : 1000 < m.f2.length
        · have hd : decide ((1000 : Int) < (m.f2.length : Int)) = true := by simp; omega
          have d4c := HS.out.c4
          have d4f := HS.out.f4
          go_wp2
          refine ⟨_, results_cell4 rfl rfl ?_, rfl, ?_⟩
          · exact (cell_old1 _ _ _ (by simp; omega) _).trans (World.cell?_setCell_same' _ _ _ (by rw [d4c]; rfl))
          · exact (HS.out.below.setCell (by simp) _).alloc (by simp; omega) _
        · have hd : decide ((1000 : Int) < (m.f2.length : Int)) = false := by simp; omega
          obtain ⟨r1, r2, hcf, hcc⟩ : ∃ r1 r2, frag_Cut.f m.f0 m.f1 m.f2 tk qk z = some (r1, r2) ∧ ((r1 = [] ∧ ∃ ec, r2 = some ec) ∨ (r2 = none ∧ Cl r1 m)) := by
            unfold frag_Cut.f
            rw [if_neg (by omega)]
            cases hg : goodB m.f0 m.f2.length with
            | false => exact ⟨_, _, rfl, .inl ⟨rfl, _, rfl⟩⟩
            | true =>
              cases hw : withinB z 1 64 with
              | false => exact ⟨_, _, rfl, .inl ⟨rfl, _, rfl⟩⟩
              | true =>
                refine ⟨_, _, rfl, .inr ⟨rfl, ?_⟩⟩
                have hz2 : 1 ≤ z ∧ z ≤ 64 := by unfold withinB at hw; simpa using hw
                obtain ⟨zn, rfl⟩ : ∃ zn : Nat, z = zn := ⟨z.toNat, by omega⟩
                have hgl := good_len hg
                rw [Int.toNat_natCast, FL.marked_eq _ _ _ _ _ _ ((parts_lt (by omega)).2 (by omega))]
                exact cl_cut m tk qk zn (by omega) (by omega) hg
          have HCF := hid hcf
          have HCC := hid hcc
          have g0 := HS.out.c0
          have g1 := HS.out.c1
          have g2 := HS.out.c2
          clear hcf hcc
          go_wp2_with (go_at_call 42; refine (frag_Cut.calls _ _ _ _ m.f2 _ _ _ r1 r2 _ (Kd.C_below HI2.out (below_alloc (Below.refl _ _) _)) hl2 HCF.out).mono ?_; rintro e w2 ⟨v0, rfl, hR0, hb2⟩)
          have HS2 := hid ((HS.out.later (below_alloc (Below.refl _ _) _)).later hb2)
          have hs2 : wr.heap.size + 1 ≤ w2.heap.size := by have := hb2.size; simpa using this
          clear g0 g1 g2
          have HR0 := hid hR0
          clear hR0 hb2
          rcases HCC.out with ⟨rfl, ec, rfl⟩ | ⟨rfl, hcl⟩
          · obtain ⟨A', c', rfl, _, _⟩ := Kd.R_reads HR0.out
            simp only [List.length_nil, errW_some]
            have d4c := HS2.out.c4
            have d4f := HS2.out.f4
            have d42 : w.heap.size + 1 < w2.heap.size := by omega
            clear HR0 HS
            go_wp2
            refine ⟨_, results_cell4 rfl rfl ?_, rfl, ?_⟩
            · exact World.cell?_setCell_same' _ _ _ (by rw [HS2.out.c4]; rfl)
            · exact HS2.out.below.setCell (by simp) _
          · have HCL := hid hcl
            clear hcl
            simp only [errW_none]
            obtain ⟨_, in5, o5, r5⟩ := HS2.out.row
            obtain ⟨_, in0, o0, r0⟩ := HR0.out
            obtain ⟨A5, d5, rfl, hd5⟩ := slice_of_row o5
            obtain ⟨g, c0, rfl, hg0⟩ := own_some o0 HCL.out.pos
            have hbg2 := HS2.out.lt
            have hlen : cs.flatten.length ≤ 4000 := by
              have := (cls_len _ _ HC.out).1
              rw [List.length_take] at this
              omega
            have hlen1 : r1.length ≤ 400 := HCL.out.le
            obtain ⟨xs, hxs⟩ : ∃ xs, cs.flatten = xs := ⟨_, rfl⟩
            rw [hxs] at o5 r5 hlen hd5
            have HXS := hid hxs
            have HO5 : Hid (w2.ownsRow (w.heap.size + 2) 93 7 (.slice A5 xs.length d5) xs.length in5) := hid o5
            have HO0 : Hid (w2.ownsRow (wr.heap.size + 1) 93 7 (.slice (some ⟨g, 0, none⟩) r1.length c0) r1.length in0) := hid (by have h := o0; rw [World.size_alloc] at h; exact h)
            have h0n : in0.length = r1.length * 7 := r0.1
            have hone0 := Kd.reps_one r0 (by decide) (fun p c hp => k93.K_one (k93.K_of_M hp))
            have H5 := hid r5
            have H0 := hid r0
            have HONE := hid hone0
            clear o5 r5 o0 r0 hxs hone0
            rw [HXS.out]
            go_wp2_with (at_builtin; go_must (refine wpList_append_own_at _ rfl _ _ 80 rfl (w.heap.size + 2) 93 i0 (.agg #[(.int .u32 0), (.int .u16 0), (.int .u16 0), (.bool false), (.bool false), (.bool false), (.slice none 0 0)]) 7 40 Try.underlying80 hi hi0 hi1 hi2 rfl (by decide) _ xs.length in5 rfl HO5.out ⟨g, 0, none⟩ r1.length c0 in0 rfl h0n ?news HONE.out ?c3 ?c4 ?c5 ?_))
            case news =>
              intro j u hj
              have h := HO0.out.cells (g := g) rfl j u hj
              exact h
            case c3 => unfold maxLen; omega
            case c4 => omega
            case c5 => omega
            intro v6 w3 own3 hg3 _ hat3
            have hs3 := hg3.size
            have hne6 : some b6 ≠ (Value.slice A5 xs.length d5).ownBlock := fun e => HS2.out.row.1 b6 (by rw [HXS.out]; exact e.symm) rfl
            have hne4 : some (w.heap.size + 1) ≠ (Value.slice A5 xs.length d5).ownBlock := fun e => by
              have := Kd.R_base HS2.out.row (w.heap.size + 1) (by rw [HXS.out]; exact e.symm)
              omega
            have k0 : w3.cell? ⟨b6, 0, none⟩ = some (.int .u32 tk) := (World.cell?_of_block (hg3.block b6 hbg2 hne6)).trans HS2.out.c0
            have k1 : w3.cell? ⟨b6, 1, none⟩ = some (.int .u16 qk) := (World.cell?_of_block (hg3.block b6 hbg2 hne6)).trans HS2.out.c1
            have k2 : w3.cell? ⟨b6, 2, none⟩ = some (.int .i64 z) := (World.cell?_of_block (hg3.block b6 hbg2 hne6)).trans HS2.out.c2
            have kf0 : w3.frozen? ⟨b6, 0, none⟩ = false := (World.frozen?_of_block (hg3.block b6 hbg2 hne6)).trans (HS2.out.fr 0)
            have kf1 : w3.frozen? ⟨b6, 1, none⟩ = false := (World.frozen?_of_block (hg3.block b6 hbg2 hne6)).trans (HS2.out.fr 1)
            have HG3 := hid hg3
            have HAT := hid hat3
            have HOW := hid own3
            have HN4 := hid hne4
            have HN6 := hid hne6
            have hb63 : b6 < w3.heap.size := by omega
            clear hg3 hat3 own3 hne4 hne6
            go_wp2
            go_roundw
            case rel =>
              have hb3 : Below w.heap.size w w3 := HS2.out.below.grown HG3.out HS2.out.below.size (fun k e => by
                have := Kd.R_base HS2.out.row k (by rw [HXS.out]; exact e)
                omega)
              have hrow : Kd.R k93 93 w3 (w.heap.size + 2) (fun k => k ≠ b6) v6 (xs ++ r1) :=
                R_appended_rows (d := k93) (okp := fun k => wr.heap.size + 1 ≤ k) (fun k hk => HS2.out.row.1 k (by rw [HXS.out]; exact hk)) H5.out
                  (H0.out.imp_ (fun p c hp => k93.M_lower (show w.heap.size + 2 ≤ (wr.alloc (Obj.cells #[.int .i64 m.f0, .bool m.f1, .slice A2 m.f2.length c2] 77)).heap.size by simp; omega) (k93.M_mono (fun k hk => by have := hk.2.1; simpa using this) (k93.M_bound hp))))
                  (fun k hk hlt => ⟨by omega, fun e => ?_⟩) (fun k hk => by omega) HOW.out HG3.out (HAT.out.imp id fun h => ⟨_, h, by omega⟩)
              · refine ⟨k + 1, cs ++ [r1], (tk + (r1.length : Int)) % 4294967296, IntKind.u16.wrap (qk + 1), by omega, by go_num, hid (by rw [HTK.out]; exact cls_snoc _ _ HC.out HCL.out), hid ⟨HS.out.big, by simp; omega, ?_, ?_, ?_, fun j => ?_, ?_, ?_, ?_, ?_⟩⟩
                · exact (World.cell?_setCell_other _ _ _ _ (by intro h; cases h)).trans (World.cell?_setCell_same' _ _ _ (by rw [k0]; rfl))
                · exact World.cell?_setCell_same' _ _ _ (by rw [World.cell?_setCell_other _ _ _ _ (by intro h; cases h), k1]; rfl)
                · exact (World.cell?_setCell_other _ _ _ _ (by intro h; cases h)).trans ((World.cell?_setCell_other _ _ _ _ (by intro h; cases h)).trans k2)
                · rw [World.frozen?_setCell, World.frozen?_setCell]
                  exact (World.frozen?_of_block (HG3.out.block b6 hbg2 HN6.out)).trans (HS2.out.fr j)
                · exact (World.cell?_setCell_far _ _ _ _ (show b6 ≠ w.heap.size + 1 by omega)).trans ((World.cell?_setCell_far _ _ _ _ (show b6 ≠ w.heap.size + 1 by omega)).trans ((World.cell?_of_block (w := w2) (HG3.out.block (w.heap.size + 1) (by omega) HN4.out)).trans HS2.out.c4))
                · rw [World.frozen?_setCell, World.frozen?_setCell]
                  exact (World.frozen?_of_block (HG3.out.block (w.heap.size + 1) (by omega) HN4.out)).trans HS2.out.f4
                · rw [List.flatten_append, HXS.out, List.flatten_cons, List.flatten_nil, List.append_nil]
                  exact Kd.R_far (Kd.R_far hrow (fun k hk => hk) _) (fun k hk => hk) _
                · exact (hb3.setCell (by show w.heap.size ≤ b6; omega) _).setCell (by show w.heap.size ≤ b6; omega) _
              · have := Kd.R_lt HS.out.row k (by rw [HXS.out]; exact e.symm)
                omega
            case measure => simp [intOf]; omega
      · obtain rfl : k = l.length := by omega
        obtain ⟨A5, d5, rfl, hd5, hC5⟩ := Kd.R_reads HS.out.row
        have hcs : Cls cs l := by have := HC.out; rwa [List.take_of_length_le (Nat.le_refl _)] at this
        have hgr := groups_cl cs l hcs
        have hsh := cls_short cs l hcs
        have hln := cls_len cs l hcs
        obtain ⟨xs, hxs⟩ : ∃ xs, cs.flatten = xs := ⟨_, rfl⟩
        rw [hxs] at hgr hsh hln hC5 hd5
        have hln1 := hln.1
        have hbg := HS.out.big
        have hlt6 := HS.out.lt
        have HXS := hid hxs
        have HGR := hid hgr
        have HSH := hid hsh
        have HCS := hid hcs
        have HC5 := hid hC5
        have hln2 := hln.2
        clear hxs hgr hsh hcs hC5 hln hlt HC
        rw [HXS.out]
        obtain ⟨f, hf⟩ : ∃ f, wr.heap.size = f := ⟨_, rfl⟩
        obtain ⟨W2, hW2⟩ : ∃ W2 : World, W2 = (wr.alloc (.cells #[] 77)).alloc (.cells #[.slice (some ⟨wr.heap.size, 0, none⟩) 0 0] 90) := ⟨_, rfl⟩
        have hB2 : Below wr.heap.size wr W2 := by rw [hW2]; exact ((Below.refl _ wr).alloc (Nat.le_refl _) _).alloc (by simp) _
        have z2 : W2.heap.size = f + 2 := by rw [hW2]; simp; omega
        have m11 : W2.cell? ⟨f + 1, 0, none⟩ = some (.slice (some ⟨f, 0, none⟩) 0 0) := by
          rw [hW2, cell_new1 _ _ _ _ (by simp; omega), hf]; rfl
        have m11f : W2.frozen? ⟨f + 1, 0, none⟩ = false := by
          rw [hW2, froz_new1 _ _ _ _ (by simp; omega)]
        have R11 : ∀ n₀, Kd.R k77 77 W2 f (fun k => k = f ∨ n₀ ≤ k) (.slice (some ⟨f, 0, none⟩) 0 0) [] := by
          intro n₀
          rw [hW2]
          refine Kd.R_alloc ?_ _
          have := R_made0 k77 77 wr (B := f) (ok := fun k => k = f ∨ n₀ ≤ k) (by omega) (.inl hf)
          rwa [hf] at this
        have hb12 : Below w.heap.size w W2 := HS.out.below.trans (hB2.mono HS.out.below.size)
        have hC5 : Kd.C k93 W2 A5 xs.length xs := Kd.C_below HC5.out hB2
        have q4 : W2.cell? ⟨w.heap.size + 1, 0, none⟩ = some (.bool false) := (hB2.cell (p := ⟨w.heap.size + 1, 0, none⟩) (by show w.heap.size + 1 < _; omega)).trans HS.out.c4
        have q4f : W2.frozen? ⟨w.heap.size + 1, 0, none⟩ = false := (World.frozen?_of_block (hB2.block (w.heap.size + 1) (by omega))).trans HS.out.f4
        have HM := hid (And.intro m11 (And.intro m11f (And.intro R11 (And.intro hb12 (And.intro hC5 (And.intro q4 q4f))))))
        have hfw : w.heap.size + 2 < f := by omega
        have HF := hid hf
        have HW2 := hid hW2
        clear m11 m11f R11 hb12 hC5 q4 q4f hB2 hW2 HS hf HC5
        go_wp2_with (go_at_call 52; rw [← HW2.out]; obtain ⟨m11, m11f, R11, hb12, hC5, q4, q4f⟩ := HM.out; refine (groups_calls A5 xs.length d5 xs rfl W2 hC5 hd5 (by omega) (fun p hp => Nat.le_trans (HSH.out p hp) (by decide))).mono ?_; rintro e W3 ⟨bo, A', c', rfl, hbo, hbo', hbc, hc', hC3, hB3⟩)
        rw [HF.out]
        clear HW2 HM
        have hB13 := hid (hb12.trans (hB3.mono hb12.size))
        have z3 : f + 2 ≤ W3.heap.size := by have := hB3.size; omega
        have r4 : W3.cell? ⟨w.heap.size + 1, 0, none⟩ = some (.bool false) := (hB3.cell (p := ⟨w.heap.size + 1, 0, none⟩) (by show w.heap.size + 1 < _; omega)).trans q4
        have r4f : W3.frozen? ⟨w.heap.size + 1, 0, none⟩ = false := (World.frozen?_of_block (hB3.block (w.heap.size + 1) (by omega))).trans q4f
        have HI : InvD f W3.heap.size W3 l [] W3 := ⟨Nat.zero_le _, ⟨_, (hB3.cell (p := ⟨f + 1, 0, none⟩) (by show f + 1 < _; omega)).trans m11, (World.frozen?_of_block (hB3.block (f + 1) (by omega))).trans m11f, Kd.R_below (R11 _) hB3⟩, Sp2.refl _ _ _⟩
        have hgrp : groupsL xs = cs := HGR.out
        have HC3 := hid hC3
        have HII := hid HI
        have HGRP := hid hgrp
        have HR4 := hid (And.intro r4 r4f)
        clear m11 m11f R11 hb12 hC5 q4 q4f hB3 hC3 HI HGR hgrp r4 r4f
        have hbo2 : f + 2 ≤ bo := by omega
        refine (wpIn_wide (n := 9)).1 ?_
        gi_wp2
        refine range_pre_law (F := FW) rfl (by decide) (gf := 80) (lb := #[.pointer (some ⟨bo, 0, none⟩)]) rfl f80 (enters_of Try.func80 (by kernel_rfl) rfl)
          (seq73 8 (by decide) bo (f + 2) A' xs c' (by omega) (fun p hp => Nat.le_trans (HSH.out p hp) (by decide)) W3 hbo2 hbo' hbc hc' (by rw [← z2]; exact HC3.out)) yielded_put KeepR.trans (keepR_b (Nat.le_refl _)) (Below.refl _ _) (fun _ => rfl)
          (InvD f W3.heap.size W3 l) (fun _ _ => False) (invD_own f _ W3 l (Nat.le_refl _) _ (Nat.le_refl _)) (fun _ _ _ _ h _ _ => h) HII.out ?a1 ?asg ?body
          (fun W => InvD f W3.heap.size W3 l (cs.map fun c => (Value.int .i64 0, c)) W) ?hd (fun _ _ _ h => h.elim) ?hend
        case asg =>
          intro lp x W K hK
          gi_wp2
          exact hK
        case hd =>
          rintro ys W hys ⟨h1, h2, h3⟩
          have : ys.length = cs.length := by rw [← HGRP.out, ← hys, List.length_map]
          refine ⟨by rw [List.length_map, ← this]; exact h1, ?_, h3⟩
          rw [List.length_map, ← this]
          exact h2
        case body =>
          rintro lp pre ⟨xv, xl⟩ V W ⟨hl0, ⟨v5, C5, F5, R5⟩, h7⟩ hVW hlp hlo ⟨hx, hpx⟩
          dsimp only at hx hpx ⊢
          rw [HGRP.out] at hpx
          have hpl : pre.length < cs.length := by
            have h1 := List.IsPrefix.length_le hpx
            simp at h1
            omega
          have hxl : cs[pre.length] = xl := by
            obtain ⟨tl, htl⟩ := hpx
            have h2 : cs[pre.length]? = some xl := by rw [← htl]; simp
            rw [List.getElem?_eq_getElem hpl] at h2
            exact Option.some.inj h2
          have hcl := cls_at cs l HCS.out pre.length hpl (by omega)
          rw [hxl] at hcl
          have htk : l.take (pre.length + 1) = l.take pre.length ++ [l[pre.length]'(by omega)] := List.take_succ_eq_append_getElem (by omega)
          obtain ⟨m, hm⟩ : ∃ m, l[pre.length]'(by omega) = m := ⟨_, rfl⟩
          rw [hm] at hcl htk
          have hro : ∀ r, some lp = some r → ∃ o : Obj, V.heap[r]? = some o ∧ o.isCells = false := by rintro r e; cases e; exact hlo
          have c5 := cell_kept C5 hVW hro
          have f5 := (frozen_kept C5 hVW hro).trans F5
          have hnV : W3.heap.size ≤ V.heap.size := h7.size
          have hnW : V.heap.size ≤ W.heap.size := hVW.size
          have hsp := hid (h7.grown hVW hnV (fun r e => by cases e; exact .inr hlp))
          have hu5 : ∀ k, v5.ownBlock = some k → k < V.heap.size ∧ (k = f ∨ W3.heap.size ≤ k) := fun k hk => ⟨((Kd.R_bound R5).1 k hk).2.2.1, R5.1 k hk⟩
          have hR5 := hid (R_otherG R5 hVW hro)
          obtain ⟨Ax, cx, rfl, hcx, hCx⟩ := Kd.R_reads hx
          have hwh := FL.whole_eq 1001 xl (by have := hcl.le; omega) (fun _ => hcl.head) (by have := hcl.le; omega)
          rw [hcl.whole] at hwh
          have HWH := hid hwh
          have HCX := hid hCx
          have HTK := hid htk
          have U5 := hid hu5
          have b5 : f + 1 < W.heap.size := by omega
          clear C5 F5 R5 h7 hVW hx hu5 hro hlo hxl hm hcl htk hwh hCx hpx
          obtain ⟨ps, hps⟩ : ∃ ps, l.take pre.length = ps := ⟨_, rfl⟩
          rw [hps] at hR5 HTK
          have hpsl : ps.length ≤ 10 := by rw [← hps, List.length_take]; omega
          obtain ⟨_, in5, o5, r5⟩ := hR5.out
          obtain ⟨A7, d7, rfl, hd7⟩ := slice_of_row o5
          have H5 := hid r5
          have HO5 : Hid (W.ownsRow f 77 3 (.slice A7 ps.length d7) ps.length in5) := hid o5
          have HPS := hid hps
          clear r5 o5 hps
          gi_wp2_with (first
            | (gi_at_call 48; go_must (refine (callsIn_wide.2 (frag_Whole.calls 1001 Ax cx xl m.f0 m.f1 m.f2 none W HCX.out hcx HWH.out)).mono ?_; rintro e w5 ⟨v2, rfl, hR2, hb5⟩; obtain ⟨A9, c9, rfl, _, _⟩ := Kd.R_reads hR2; simp only [errW_none]; have HB5b := hb5; have c5b : w5.cell? ⟨f + 1, 0, none⟩ = some (.slice A7 ps.length d7) := (HB5b.cell (p := ⟨f + 1, 0, none⟩) b5).trans c5; have f5b : w5.frozen? ⟨f + 1, 0, none⟩ = false := (World.frozen?_of_block (HB5b.block (f + 1) b5)).trans f5; have hs5 := HB5b.size; have b5' : f + 1 < w5.heap.size := (by omega); clear HB5b c5 f5; have HR2 := hid hR2; have HB5 := hid hb5; clear hR2 hb5))
            | (gi_at_builtin; go_must (refine wpListIn_append_own_at _ rfl _ _ 90 rfl f 77 j0 (.agg #[.int .i64 0, .bool false, .slice none 0 0]) 3 40 Try.underlying90 hj hj0 hj1 hj2 rfl (by decide) _ ps.length in5 rfl ?ho5 ⟨w5.heap.size + 1, 0, none⟩ 1 1 [.int .i64 m.f0, .bool m.f1, .slice A9 m.f2.length c9] rfl rfl ?news5 ?one5 ?c35 ?c45 ?c55 ?_)))
          case ho5 => exact Base.ownsRow_later HO5.out ((HB5.out.alloc HB5.out.size _).alloc (by simp; have := HB5.out.size; omega) _)
          case one5 => exact ⟨rfl, rfl, rfl⟩
          case c35 => unfold maxLen; omega
          case c45 => omega
          case c55 => omega
          intro v7 w7 own7 hg7 hat7
          obtain ⟨A8, d8, rfl, _⟩ := slice_of_row own7
          obtain ⟨w6, hw6⟩ : ∃ w6, w6 = (w5.alloc (.cells #[.int .i64 m.f0, .bool m.f1, .slice A9 m.f2.length c9] 77)).alloc (.cells #[.int .i64 m.f0, .bool m.f1, .slice A9 m.f2.length c9] 77) := ⟨_, rfl⟩
          rw [← hw6] at hg7
          have hb6 : Below W.heap.size W w6 := by rw [hw6]; exact (HB5.out.alloc HB5.out.size _).alloc (by simp; have := HB5.out.size; omega) _
          have z6 : w6.heap.size = w5.heap.size + 2 := by rw [hw6]; simp
          have hs7 := hg7.size
          have u5 := U5.out
          have hb65 : Below w5.heap.size w5 w6 := by rw [hw6]; exact ((Below.refl _ w5).alloc (Nat.le_refl _) _).alloc (by simp) _
          have hne : some (f + 1) ≠ (Value.slice A7 ps.length d7).ownBlock := fun e => by have := (u5 _ e.symm).2; omega
          have c7 : w7.cell? ⟨f + 1, 0, none⟩ = some (.slice A7 ps.length d7) := (World.cell?_of_block (w := w6) (hg7.block _ (by show f + 1 < _; omega) hne)).trans ((hb65.cell (p := ⟨f + 1, 0, none⟩) b5').trans c5b)
          have f7 : w7.frozen? ⟨f + 1, 0, none⟩ = false := (World.frozen?_of_block (hg7.block _ (by show f + 1 < _; omega) hne)).trans ((World.frozen?_of_block (hb65.block _ b5')).trans f5b)
          have R7 : Kd.R k77 77 w7 f (fun k => k = f ∨ W3.heap.size ≤ k) (.slice A8 (ps.length + 1) d8) (ps ++ [m]) :=
            Kd.R_appended (d := k77) (okp := fun k => W.heap.size ≤ k ∧ some k ≠ (Value.slice A7 ps.length d7).ownBlock) hR5.out.1 (H5.out.imp_ (fun _ _ hp => Kd.M_below hp hb6))
              (k77_mkM w6 f _ m (Kd.R_mono (Kd.R_lower (Kd.R_bound (Kd.R_below HR2.out hb65)) (by omega)) (fun k hk => ⟨hk.2.1, fun e => by have := (u5 _ e.symm).1; have := hk.2.1; omega⟩)))
              (fun k hk => ⟨.inr (by omega), hk.2⟩) (fun k hk => .inr (by omega)) own7 hg7 (hat7.imp id fun h => ⟨_, h, by omega⟩)
          obtain ⟨w8, hw8⟩ : ∃ w8, w8 = w7.setCell ⟨f + 1, 0, none⟩ (.slice A8 (ps.length + 1) d8) := ⟨_, rfl⟩
          have hg8 : w7.grownBy w8 (some (f + 1)) := by rw [hw8]; exact Base_grown _ _ _
          have c8 : w8.cell? ⟨f + 1, 0, none⟩ = some (.slice A8 (ps.length + 1) d8) := by rw [hw8]; exact World.cell?_setCell_same' _ _ _ (by rw [c7]; rfl)
          have f8 : w8.frozen? ⟨f + 1, 0, none⟩ = false := by rw [hw8, World.frozen?_setCell]; exact f7
          have R8 : Kd.R k77 77 w8 f (fun k => k = f ∨ W3.heap.size ≤ k) (.slice A8 (ps.length + 1) d8) (ps ++ [m]) := Kd.R_grown R7 hg8 (fun k hk e => by cases e; omega)
          have hko : KeepsOthers W w8 := ((keeps_below hb6).trans (KeepsOthers.of_grownBy hg7 (fun j o e h => own_cells (Base.ownsRow_later HO5.out hb6) j o e h))).trans (by rw [hw8]; exact KeepsOthers.setCell _ _ _)
          have hsp8 : Sp2 f W3.heap.size W w8 := ((Sp2.of (below_grown0 hb6) (by omega) (fun r e => by cases e)).grown hg7 (by omega) (fun r e => by have := u5 r e; omega)).grown hg8 (by omega) (fun r e => by cases e; omega)
          have FIN : Hid (KeepsOthers W w8 ∧ KeepR (f + 2) W3.heap.size W w8 ∧ InvD f W3.heap.size W3 l (pre ++ [(.slice Ax xl.length cx, xl)]) w8) :=
            hid ⟨hko, hsp8.keep (Nat.le_refl _), by rw [List.length_append, List.length_singleton]; omega, ⟨_, c8, f8, by rw [List.length_append, List.length_singleton, HTK.out]; exact R8⟩, hsp.out.trans hsp8⟩
          rw [hw8] at FIN
          clear hw8 hg8 c8 f8 R8 hko hsp8 R7 hg7 hat7 own7 hw6 hb65 hne
          gi_wp2
          exact FIN.out
        case hend =>
          rintro D W hD ⟨hl0, ⟨v5, C5, F5, R5⟩, h7⟩ hK
          have zW : W3.heap.size ≤ W.heap.size := h7.size
          have p4 : W.cell? ⟨w.heap.size + 1, 0, none⟩ = some (.bool false) := (h7.cell (p := ⟨w.heap.size + 1, 0, none⟩) (by show w.heap.size + 1 < _; omega) (.inl (by show w.heap.size + 1 < _; omega))).trans HR4.out.1
          have p4f : W.frozen? ⟨w.heap.size + 1, 0, none⟩ = false := (World.frozen?_of_block (h7.block (w.heap.size + 1) (by omega) (.inl (by omega)))).trans HR4.out.2
          have hBW : Below w.heap.size w W := h7.below hB13.out (by omega) (by omega)
          rw [List.length_map, hln2, List.take_of_length_le (Nat.le_refl _)] at R5
          obtain ⟨A7, d7, rfl, hd7, C7⟩ := Kd.R_reads R5
          have hCl : Kd.C k77 W A l.length l := Kd.C_below HR.out hBW
          have HC7 := hid C7
          have HCL := hid hCl
          have HBW := hid hBW
          have HK := hid hK
          have b4 : w.heap.size + 1 < W.heap.size := by omega
          clear R5 C7 hCl hBW hK h7
          go_wp2_with (go_at_call 49; go_must (refine (messages_calls A7 d7 A c l W HC7.out HCL.out).mono ?_; rintro e w9 ⟨rfl, ⟨⟨n9, rfl⟩⟩⟩))
          have e1 : ((W.drewN n9).setCell ⟨w.heap.size + 1, 0, none⟩ (.bool true)).heap[D]? = some (.deferred (some [])) :=
            (Below.heap_setCell _ _ _ _ (show D ≠ w.heap.size + 1 by omega)).trans HK.out
          have hlD : D < W.heap.size := (Array.getElem?_eq_some_iff.1 HK.out).1
          have hb9 : Below w.heap.size w ((W.drewN n9).setCell ⟨w.heap.size + 1, 0, none⟩ (.bool true)) := (pw_below_drewN HBW.out n9).setCell (by show w.heap.size ≤ w.heap.size + 1; omega) _
          have hend := hb9.trans (belowK_b (w := w) (Nat.le_refl _) _ D _ (.deferred none) (by omega) e1 rfl rfl)
          refine ⟨by simp, .inl ⟨_, _, rfl, run_takeDeferred e1, ?_⟩⟩
          refine ⟨_, results_cell4 rfl rfl ?_, rfl, hend⟩
          rw [(World.cell?_of_block (w := (W.drewN n9).setCell ⟨w.heap.size + 1, 0, none⟩ (.bool true)) ((grownBy_putObj' _ D (.deferred none)).block (w.heap.size + 1) (by simp; omega) (by simp; omega)))]
          exact World.cell?_setCell_same' _ _ _ (by rw [World.cell?_drewN, p4]; rfl)
end Go.Proofs.Ytnlhlffciigcnaa.QFrag
