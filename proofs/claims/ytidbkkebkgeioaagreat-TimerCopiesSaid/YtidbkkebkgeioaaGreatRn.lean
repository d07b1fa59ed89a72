import Derived.Test.YtidbkkebkgeioaaGreatRm
import Derived.RegionTactic
import Derived.ChangeAlike
namespace Go.Proofs.YtidbkkebkgeioaaGreat.En
open Go.ChangeShapes Go.WideShapes Go.ChangeAt Go.RowKit Go.Shelf MK
open Base (hid cell_new1 cell_old1 froz_new1 froz_old1)
open TmA
attribute [local go_sem] Oper.semAt_some
set_option linter.unusedVariables false
set_option linter.unusedSimpArgs false
theorem ownFrom_grown {β : Type} (W0 : World) (cnt B : Nat) (hB : W0.heap.size ≤ B) : OwnFrom B (fun (_ : β) W => W0.grownBy W (some cnt)) := by
  intro _ W W' row hs hg hr
  refine ⟨hg.os.trans hs.os, hg.tape.trans hs.tape, hg.output.trans hs.output, Nat.le_trans hs.size hg.size, fun k hk hne => ?_⟩
  rw [hg.block k (Nat.lt_of_lt_of_le hk hs.size) (fun e => by have := (hr k e.symm).1; omega)]
  exact hs.block k hk hne
theorem grown_set {W0 W : World} {cnt : Nat} (h : W0.grownBy W (some cnt)) (v : Value) : W0.grownBy (W.setCell ⟨cnt, 0, none⟩ v) (some cnt) := h.trans (grownBy_setCell' W cnt v)
theorem cnt_step {W : World} {cnt : Nat} {α : Type} {pre : List α} {x : α} (h1 : W.cell? ⟨cnt, 0, none⟩ = some (.int .i64 (pre.length : Nat))) (h2 : W.frozen? ⟨cnt, 0, none⟩ = false) :
    (W.setCell ⟨cnt, 0, none⟩ (.int .i64 (((pre.length : Nat) : Int) + 1))).cell? ⟨cnt, 0, none⟩ = some (.int .i64 ((pre ++ [x]).length : Nat)) ∧ (W.setCell ⟨cnt, 0, none⟩ (.int .i64 (((pre.length : Nat) : Int) + 1))).frozen? ⟨cnt, 0, none⟩ = false := by
  constructor
  · rw [World.cell?_setCell_same' _ _ _ (by rw [h1]; rfl)]
    simp
  · rw [World.frozen?_setCell]; exact h2
theorem results_cell4 {fn : Func} (h : fn.results = #[.cell 4 4]) {tmps : Array Value} {a : Addr} {b : Bool} {w : World} (ht : tmps[4]? = some (.pointer (some a))) (hc : w.cell? a = some (.bool b)) :
    (results fn tmps).run Tryz.prog w = .ok (.bool b) w := by
  simp only [results, h]
  simp [go_sem, hc, Sem.run_bind, Array.getD_eq_getD_getElem?, ht]
theorem all_any (p : Option Addr) (w : World) : Calls Tryz.prog 11 #[.pointer p] w fun e w' => e = .returned (.func (.func 32) #[] #[.pointer (some ⟨w.heap.size, 0, none⟩)]) ∧ w' = w.alloc (.cells #[.pointer p] 24) := by
  go_enter Tryz.func11, Tryz.ntmps11
  go_wp2
  go_ret
  exact ⟨rfl, rfl⟩
theorem seqAll (m : Nat) (hm : 1 ≤ m) (bp bt b nn cnt : Nat) (tm : Tm.M) (w : World) (hbp : w.cell? ⟨bp, 0, none⟩ = some (.pointer (some ⟨bt, 0, none⟩))) (hT : Tab w bt b nn tm) (k4 : bp ≠ cnt) (k5 : bt ≠ cnt) (k6 : b ≠ cnt) (k7 : cnt < w.heap.size) (hl : tm.length ≤ 1000000) :
    SeqPre FW m Tryz.prog 32 #[.pointer (some ⟨bp, 0, none⟩)] (fun x : Int × Int => #[.int .i64 x.1, .int .i64 x.2]) (fun pre x _ _ => (pre ++ [x]) <+: tm) (KeepC cnt w.heap.size) (fun xs => xs = tm) (fun pre => pre <+: tm) w := by
  intro y J Jx W hW hJ _ hY h0
  exact all1 m hm y bp bt b nn cnt w.heap.size tm J Jx W hJ (fun pre x W1 hj hp => hY pre x W1 W1 hj (Below.refl _ _) hp) ((hW.cell (p := ⟨bp, 0, none⟩) (lt_of_cell hbp)).trans hbp) (hT.below hW) hW.size (lt_of_cell hbp) hT.lt.1 hT.lt.2 k4 k5 k6 (Nat.lt_of_lt_of_le k7 hW.size) hl h0
set_option maxRecDepth 100000 in
set_option maxHeartbeats 4000000 in
theorem goes_calls (w : World) (bt b n : Nat) (m : Tm.M) (A : Option Addr) (c : Nat) (hT : Tab w bt b n m) (hO : Own w 0 A c m) (hl : m.length ≤ 100000) :
    Calls Tryz.prog 8 #[.pointer (some ⟨bt, 0, none⟩), .slice A m.length c] w fun e w' => e = .returned (.bool true) ∧ Below w.heap.size w w' := by
  refine (callsIn_wide (n := 9)).1 ?_
  have f11 : FW.fn 11 := trivial
  have f32 : FW.fn 32 := trivial
  have HT := hid hT
  have HO := hid hO
  clear hT hO
  refine callsIn_of_wp_marks Tryz.func8 rfl trivial ?_ rfl
  simp only [Tryz.ntmps8, List.size_toArray, List.length_cons, List.length_nil, Nat.reduceAdd, Nat.reduceSub, Array.replicate_succ, Array.replicate_zero, List.push_toArray, List.append_toArray, List.nil_append, List.cons_append]
  gi_wp2_with (gi_at_call 11; refine (callsIn_wide.2 (all_any _ _)).mono ?_; rintro e w' ⟨rfl, rfl⟩)
  generalize hW1 : World.alloc (World.alloc _ _) _ = W1
  have z1 : W1.heap.size = w.heap.size + 4 := by rw [← hW1]; simp
  have c1 : W1.cell? ⟨w.heap.size, 0, none⟩ = some (.slice A m.length c) := by
    rw [← hW1, cell_old1 _ _ _ (by simp <;> omega), cell_old1 _ _ _ (by simp <;> omega), cell_old1 _ _ _ (by simp <;> omega), cell_new1 _ _ _ _ rfl]; rfl
  have c2 : W1.cell? ⟨w.heap.size + 1, 0, none⟩ = some (.bool false) := by
    rw [← hW1, cell_old1 _ _ _ (by simp <;> omega), cell_old1 _ _ _ (by simp <;> omega), cell_new1 _ _ _ _ (by simp <;> omega)]; rfl
  have c3 : W1.cell? ⟨w.heap.size + 1 + 1, 0, none⟩ = some (.int .i64 0) := by
    rw [← hW1, cell_old1 _ _ _ (by simp <;> omega), cell_new1 _ _ _ _ (by simp <;> omega)]; rfl
  have c4 : W1.cell? ⟨w.heap.size + 1 + 1 + 1, 0, none⟩ = some (.pointer (some ⟨bt, 0, none⟩)) := by
    rw [← hW1, cell_new1 _ _ _ _ (by simp <;> omega)]; rfl
  have g2 : W1.frozen? ⟨w.heap.size + 1, 0, none⟩ = false := by
    rw [← hW1, froz_old1 _ _ _ (by simp <;> omega), froz_old1 _ _ _ (by simp <;> omega), froz_new1 _ _ _ _ (by simp <;> omega)]
  have g3 : W1.frozen? ⟨w.heap.size + 1 + 1, 0, none⟩ = false := by
    rw [← hW1, froz_old1 _ _ _ (by simp <;> omega), froz_new1 _ _ _ _ (by simp <;> omega)]
  have hb1 : Below w.heap.size w W1 := by
    rw [← hW1]
    exact ((((Below.refl _ w).alloc (Nat.le_refl _) _).alloc (by simp) _).alloc (by simp <;> omega) _).alloc (by simp <;> omega) _
  clear hW1
  have hT1 : Tab W1 bt b n m := HT.out.below hb1
  have hO1 : Own W1 0 A c m := Base.ownsRow_later HO.out hb1
  have hlt1 := HT.out.lt
  have HB1 := hid hb1
  have HO1 := hid hO1
  clear hb1 hO1
  have OWN : OwnFrom W1.heap.size (fun (pre : List (Int × Int)) W => (W.cell? ⟨w.heap.size + 1 + 1, 0, none⟩ = some (.int .i64 (pre.length : Nat)) ∧ W.frozen? ⟨w.heap.size + 1 + 1, 0, none⟩ = false) ∧ W1.grownBy W (some (w.heap.size + 1 + 1))) :=
    OwnFrom.and (Own.from (fun s A B row hs hg hr => ⟨cell_kept hs.1 hg hr, (frozen_kept hs.1 hg hr).trans hs.2⟩) _) (ownFrom_grown _ _ _ (Nat.le_refl _))
  refine range_pre_law (F := FW) rfl (by decide) (gf := 32) (lb := #[.pointer (some ⟨w.heap.size + 1 + 1 + 1, 0, none⟩)]) rfl f32 (enters_of Tryz.func32 (by kernel_rfl) rfl)
    (seqAll 8 (by decide) (w.heap.size + 1 + 1 + 1) bt b n (w.heap.size + 1 + 1) m W1 c4 hT1 (by omega) (by omega) (by omega) (by omega) (by omega)) (fun _ _ _ _ _ _ _ h _ _ _ => h) KeepC.trans (keepC_b (Nat.le_refl _)) (Below.refl _ _) (fun _ => rfl)
    (fun pre W => (W.cell? ⟨w.heap.size + 1 + 1, 0, none⟩ = some (.int .i64 (pre.length : Nat)) ∧ W.frozen? ⟨w.heap.size + 1 + 1, 0, none⟩ = false) ∧ W1.grownBy W (some (w.heap.size + 1 + 1))) (fun _ _ => False) OWN (fun _ _ _ _ h _ _ => h) ⟨⟨c3, g3⟩, World.grownBy.refl _ _⟩ ?a1 ?asg ?body
    (fun W => (W.cell? ⟨w.heap.size + 1 + 1, 0, none⟩ = some (.int .i64 (m.length : Nat)) ∧ W.frozen? ⟨w.heap.size + 1 + 1, 0, none⟩ = false) ∧ W1.grownBy W (some (w.heap.size + 1 + 1))) ?hd (fun _ _ _ h => h.elim) ?hend
  case asg =>
    intro lp x W K hK
    gi_wp2
    exact hK
  case hd =>
    rintro ys W rfl h
    exact h
  case body =>
    rintro lp pre ⟨xk, xa⟩ V W hIV hVW hlp hlo hpx
    obtain ⟨⟨h1, h2⟩, h3⟩ := OWN pre V W (some lp) hIV hVW (fun r e => by cases e; exact ⟨hlp, hlo⟩)
    have hlen : pre.length < m.length := by
      have := hpx.length_le
      simp at this
      omega
    have hx : m[pre.length] = (xk, xa) := by
      obtain ⟨r, hr⟩ := hpx
      have := List.getElem_of_eq hr.symm hlen
      rw [this]
      simp
    have hbx : W.cell? ⟨w.heap.size, 0, none⟩ = some (.slice A m.length c) := h3.cell (a := ⟨w.heap.size, 0, none⟩) c1 (by simp; omega)
    have hOW : Own W 0 A c m := HO1.out.kept h3 (.inr fun e => by
      have := (own_base HO.out e).2
      omega)
    obtain ⟨ad, rfl, _, _, a0, a1⟩ := Own.at hOW pre.length hlen
    rw [hx] at a0 a1
    dsimp only at a0 a1
    have d1 : (xk != xk) = false := by simp
    have d2 : (xa != xa) = false := by simp
    have H3 := hid h3
    have HOW := hid hOW
    have HPX := hid hpx
    have hz := h3.size
    clear h3 hOW hpx hx hIV hVW c1 c2 c3 c4 g2 g3 hT1 OWN
    dsimp only
    gi_wp2
    exact ⟨KeepsOthers.setCell _ _ _, keepC_set _ _ _ _, cnt_step h1 h2, grown_set H3.out _⟩
  case hend =>
    rintro D W2 hD ⟨⟨t1, t2⟩, hg2⟩ hK
    have e1 : W2.cell? ⟨w.heap.size, 0, none⟩ = some (.slice A m.length c) := hg2.cell (a := ⟨w.heap.size, 0, none⟩) c1 (by simp; omega)
    have e2 : W2.cell? ⟨w.heap.size + 1, 0, none⟩ = some (.bool false) := hg2.cell (a := ⟨w.heap.size + 1, 0, none⟩) c2 (by simp)
    have e3 : W2.frozen? ⟨w.heap.size + 1, 0, none⟩ = false := (World.frozen?_of_block (w := W1) (hg2.block (w.heap.size + 1) (by omega) (by simp))).trans g2
    have hB2 : Below w.heap.size w W2 := HB1.out.grown hg2 (by omega) (fun k e => by cases e; omega)
    have HG := hid hg2
    have HB2 := hid hB2
    have HK := hid hK
    have hD2 : D < W2.heap.size := (Array.getElem?_eq_some_iff.1 hK).1
    clear c1 c2 c3 c4 g2 g3 hT1 OWN hg2 hB2 hK
    gi_wp2
    have hg3 := grownBy_setCell' W2 (w.heap.size + 1) (.bool true)
    have hK3 : (W2.setCell ⟨w.heap.size + 1, 0, none⟩ (.bool true)).heap[D]? = some (.deferred (some [])) := (hg3.block D hD2 (by simp; omega)).trans HK.out
    have e4 : (W2.setCell ⟨w.heap.size + 1, 0, none⟩ (.bool true)).cell? ⟨w.heap.size + 1, 0, none⟩ = some (.bool true) := World.cell?_setCell_same _ _ _ e2
    have hg4 := grownBy_putObj' (W2.setCell ⟨w.heap.size + 1, 0, none⟩ (.bool true)) D (.deferred none)
    have hB3 := (HB2.out.grown hg3 (by omega) (fun k e => by cases e; omega)).grown hg4 (by have := hg3.size; omega) (fun k e => by cases e; omega)
    refine ⟨by simp, .inl ⟨_, _, rfl, run_takeDeferred hK3, ?_⟩⟩
    exact ⟨_, results_cell4 rfl rfl ((World.cell?_of_block (w := W2.setCell ⟨w.heap.size + 1, 0, none⟩ (.bool true)) (a := ⟨w.heap.size + 1, 0, none⟩) (hg4.block _ (by have := hg3.size; show w.heap.size + 1 < _; omega) (by simp; omega))).trans e4), rfl, hB3⟩
end Go.Proofs.YtidbkkebkgeioaaGreat.En
