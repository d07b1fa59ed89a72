import Derived.Test.YtidbkkebkgeioaaSm
namespace Go.Proofs.Ytidbkkebkgeioaa.Sl
open Go.ChangeShapes Go.WideShapes Go.ChangeAt Go.RowKit Go.Shelf Go.Sort
open Base (hid cell_new1 cell_old1 froz_new1 froz_old1)
open TmA (own_some)
open It (runs seqR FW)
set_option linter.unusedVariables false
theorem Pair.of_rj {g : Nat} {w6 W : World} {pre : List (Int × Nat)} (hg : g + 4 ≤ w6.heap.size) (h : RJ g w6 pre W) : ∃ v v', Pair W W g w6.heap.size v v' v v' (pre.map fun x => IntKind.i64.wrap x.1) (pre.map fun x => (x.2 : Int)) := by
  obtain ⟨⟨v, v', h1, h2, h3⟩, h4, _⟩ := h
  exact ⟨v, v', h1.c, h1.fr, h2.c, h2.fr, by simpa using h1.own, by simpa using h2.own, h1.blk, h2.blk, h3, hg, h4, Nat.le_refl _, rfl, rfl, rfl, fun _ _ _ _ => rfl, ⟨Nat.le_refl _, fun _ _ h _ => h⟩⟩
theorem Pair.fin {g : Nat} {w6 W w3 : World} {pre : List (Int × Nat)} {xk : Int} {xn : Nat} {u1 u2 v1 v2 : Value} (hI : RJ g w6 pre W)
    (h : Pair W w3 g w6.heap.size u1 u2 v1 v2 ((pre.map fun x => IntKind.i64.wrap x.1) ++ [IntKind.i64.wrap xk]) ((pre.map fun x => (x.2 : Int)) ++ [(xn : Int)])) :
    KeepsOthers W ((w3.setCell ⟨g + 2, 0, none⟩ v1).setCell ⟨g + 3, 0, none⟩ v2) ∧ It.Keep (g + 4) w6.heap.size W ((w3.setCell ⟨g + 2, 0, none⟩ v1).setCell ⟨g + 3, 0, none⟩ v2) ∧
      RJ g w6 (pre ++ [(xk, xn)]) ((w3.setCell ⟨g + 2, 0, none⟩ v1).setCell ⟨g + 3, 0, none⟩ v2) := by
  obtain ⟨_, _, i1, i2, i3, i4⟩ := hI
  have hB := h.BW
  have hg4 := h.gB
  have hsz := h.sz
  obtain ⟨WA, hWA⟩ : ∃ WA, WA = w3.setCell ⟨g + 2, 0, none⟩ v1 := ⟨_, rfl⟩
  obtain ⟨WB, hWB⟩ : ∃ WB, WB = WA.setCell ⟨g + 3, 0, none⟩ v2 := ⟨_, rfl⟩
  have gA : w3.grownBy WA (some (g + 2)) := by rw [hWA]; exact grown_setAt _ _ _ _
  have gB : WA.grownBy WB (some (g + 3)) := by rw [hWB]; exact grown_setAt _ _ _ _
  have kA : KeepsOthers w3 WA := by rw [hWA]; exact KeepsOthers.setCell _ _ _
  have kB : KeepsOthers WA WB := by rw [hWB]; exact KeepsOthers.setCell _ _ _
  have hs1 := gA.size
  have hs2 := gB.size
  have nb : ∀ (v : Value) (n : Nat), n < w6.heap.size → n ≠ g → n ≠ g + 1 → (∀ q, v.ownBlock = some q → q = g ∨ w6.heap.size ≤ q) ∨ (∀ q, v.ownBlock = some q → q = g + 1 ∨ w6.heap.size ≤ q) → v.ownBlock = none ∨ v.ownBlock ≠ some n := by
    intro v n h1 h2 h3 h4
    rcases hb : v.ownBlock with _ | q
    · exact .inl rfl
    · refine .inr fun e => ?_
      have e := Option.some.inj e
      rcases h4 with h4 | h4 <;> rcases h4 q hb with h5 | h5 <;> omega
  have cA1 : WA.cell? ⟨g + 2, 0, none⟩ = some v1 := by rw [hWA]; exact World.cell?_setCell_same _ _ _ h.c1
  have fA1 : WA.frozen? ⟨g + 2, 0, none⟩ = false := by rw [hWA]; simpa using h.f1
  have cA2 : WA.cell? ⟨g + 3, 0, none⟩ = some u2 := by rw [hWA, World.cell?_setCell_other _ _ _ _ (by simp)]; exact h.c2
  have fA2 : WA.frozen? ⟨g + 3, 0, none⟩ = false := (World.frozen?_of_block (w := w3) (gA.block (g + 3) (by omega) (fun e => by have := Option.some.inj e; omega))).trans h.f2
  rw [← hWA, ← hWB]
  refine ⟨(h.ko.trans kA).trans kB, ⟨by omega, fun k hk hk2 => ?_⟩, ⟨v1, v2, ⟨?_, ?_, ?_, h.q1⟩, ⟨?_, ?_, ?_, h.q2⟩, h.ap⟩, by omega, gB.os.trans (gA.os.trans (h.os.trans i1)), gB.tape.trans (gA.tape.trans (h.tape.trans i2)), gB.output.trans (gA.output.trans (h.output.trans i3)), fun k hk hk2 => ?_⟩
  · rw [gB.block k (by omega) (fun e => by have := Option.some.inj e; omega), gA.block k (by omega) (fun e => by have := Option.some.inj e; omega)]
    exact h.blk k hk2 (by omega) (by omega)
  · rw [hWB, World.cell?_setCell_other _ _ _ _ (by simp)]; exact cA1
  · exact (World.frozen?_of_block (w := WA) (gB.block (g + 2) (by omega) (fun e => by have := Option.some.inj e; omega))).trans fA1
  · have := (h.o1.kept gA (nb v1 (g + 2) (by omega) (by omega) (by omega) (.inl h.q1))).kept gB (nb v1 (g + 3) (by omega) (by omega) (by omega) (.inl h.q1))
    simpa using this
  · rw [hWB]; exact World.cell?_setCell_same _ _ _ cA2
  · rw [hWB]; simpa using fA2
  · have := (h.o2.kept gA (nb v2 (g + 2) (by omega) (by omega) (by omega) (.inr h.q2))).kept gB (nb v2 (g + 3) (by omega) (by omega) (by omega) (.inr h.q2))
    simpa using this
  · rw [gB.block k (by omega) (fun e => by have := Option.some.inj e; omega), gA.block k (by omega) (fun e => by have := Option.some.inj e; omega), h.blk k hk (by omega) (by omega)]
    exact i4 k hk hk2
theorem results_cell6 {fn : Func} (h : fn.results = #[.cell 6 4]) {tmps : Array Value} {a : Addr} {b : Bool} {w : World} (ht : tmps[6]? = some (.pointer (some a))) (hc : w.cell? a = some (.bool b)) :
    (results fn tmps).run Try.prog w = .ok (.bool b) w := by
  simp only [results, h]
  simp [go_sem, hc, Sem.run_bind, Array.getD_eq_getD_getElem?, ht]
theorem RL.below {g h B : Nat} {W W' : World} {xs : List Int} {v : Value} (hr : RL g h W B xs v) (hb : Below W.heap.size W W') : RL g h W' B xs v :=
  ⟨(hb.cell (p := ⟨h, 0, none⟩) (TmA.lt_of_cell hr.c)).trans hr.c, (hb.frozen (p := ⟨h, 0, none⟩) (TmA.lt_of_cell hr.c)).trans hr.fr, Base.ownsRow_later hr.own hb, hr.blk⟩
theorem own_i (W3 : World) (b : Nat) (hb : b < W3.heap.size) : OwnFrom W3.heap.size (fun (pre : List Int) W => W3.grownBy W (some b) ∧ W.cell? ⟨b, 0, none⟩ = some (.int .i64 (pre.length : Nat)) ∧ W.frozen? ⟨b, 0, none⟩ = false) := by
  rintro pre W W' row ⟨h1, h2, h3⟩ hg hr
  refine ⟨⟨hg.os.trans h1.os, hg.tape.trans h1.tape, hg.output.trans h1.output, Nat.le_trans h1.size hg.size, fun k hk hne => (hg.block k (Nat.lt_of_lt_of_le hk h1.size) (fun e => by have := (hr k e.symm).1; omega)).trans (h1.block k hk hne)⟩,
    hg.cell (a := ⟨b, 0, none⟩) h2 (fun e => Nat.lt_irrefl _ (Nat.lt_of_lt_of_le hb (hr b e.symm).1)), (World.frozen?_of_block (w := W) (hg.block b (TmA.lt_of_cell h2) (fun e => Nat.lt_irrefl _ (Nat.lt_of_lt_of_le hb (hr b e.symm).1)))).trans h3⟩
theorem own_low {w : World} {B B' e s n : Nat} {v : Value} {xs : List Value} (h : w.ownsRow B' e s v n xs) (hB : B ≤ B') : w.ownsRow B e s v n xs :=
  ⟨h.1, h.2.imp id (fun ⟨g, cap, cur, a, b, c⟩ => ⟨g, cap, cur, a, Nat.le_trans hB b, c⟩)⟩
theorem runs_u : ∀ (m : Nat) (l : List Int), l.length ≤ m → (∀ x ∈ l, U x) → ∀ p ∈ runs l, U p.1
  | 0, l, hm, hu, p, hp => by
    obtain rfl := List.eq_nil_of_length_eq_zero (Nat.le_zero.1 hm)
    rw [It.runs_nil] at hp
    cases hp
  | m + 1, [], hm, hu, p, hp => by
    rw [It.runs_nil] at hp
    cases hp
  | m + 1, a :: l, hm, hu, p, hp => by
    rw [It.runs_cons] at hp
    rcases List.mem_cons.1 hp with rfl | hp
    · exact hu _ (by simp)
    · exact runs_u m _ (by simp at hm ⊢; omega) (fun x hx => hu x (List.mem_cons_of_mem _ (List.mem_of_mem_drop hx))) p hp
theorem runs_wrap {l : List Int} (hu : ∀ x ∈ l, U x) : ((runs l).map fun x => IntKind.i64.wrap x.1) = (runs l).map (·.1) := by
  refine List.map_congr_left fun p hp => ?_
  have := runs_u _ l (Nat.le_refl _) hu p hp
  unfold U at this
  show IntKind.i64.wrap p.1 = p.1
  rw [IntKind.wrap_i64]
  omega
theorem seqR_at {f : Int} {m : Nat} {pre : List Int} {x : Int} (h : (pre ++ [x]) <+: seqR f m) : x = (f + (pre.length : Nat)) % 4294967296 := by
  obtain ⟨t, ht⟩ := h
  have h1 : (seqR f m)[pre.length]? = some x := by rw [← ht]; simp
  have hlt : pre.length < m := by
    rcases Nat.lt_or_ge pre.length m with h | h
    · exact h
    · rw [List.getElem?_eq_none (by rw [It.seqR_len]; exact h)] at h1
      cases h1
  unfold It.seqR at h1
  simp [hlt] at h1
  exact h1.symm
set_option maxRecDepth 100000 in
set_option maxHeartbeats 1000000 in
theorem words2_calls (v : Value) (A' : Option Addr) (c' B : Nat) (l : List Int) (w : World) (h : w.ownsRow B 22 1 v l.length (l.map (.int .u32))) (h' : RowU w A' l) (hl : l.length ≤ 1000000) :
    Calls Try.prog 15 #[v, .slice A' l.length c'] w fun e w' => e = .returned (.bool true) ∧ ∃ q, w' = w.drewN q := by
  obtain ⟨A, c, rfl, _⟩ := Base.slice_of_row h
  have H := hid h
  have H' := hid h'
  clear h h'
  go_enter Try.func15, Try.ntmps15
  go_wp2
  go_loopw [13] (fun v13 wr => ∃ i : Nat, i ≤ l.length ∧ v13 = .int .i64 i ∧ Hid (∃ q, wr = w.drewN q)) (fun v13 _ => l.length - (intOf v13).toNat)
  case atStart => exact ⟨0, Nat.zero_le _, rfl, hid ⟨0, rfl⟩⟩
  case round =>
    obtain ⟨i, hil, rfl, HQ⟩ := hrel
    by_cases hlt : i < l.length
    · obtain ⟨g, c1, e1, _⟩ := own_some H.out (by omega)
      obtain ⟨ad, rfl, _, hc0⟩ := H'.out i hlt
      cases e1
      obtain ⟨k, hk⟩ : ∃ k, l[i] = k := ⟨_, rfl⟩
      have c0 : wr.cell? ⟨g, i, none⟩ = some (.int .u32 k) := by
        obtain ⟨q, rfl⟩ := HQ.out
        have h1 := H.out.cells (g := g) rfl i (.int .u32 l[i]) (by simp [hlt])
        rw [TmA.add0, hk] at h1
        exact h1
      have c0' : wr.cell? (ad.add i) = some (.int .u32 k) := by
        obtain ⟨q, rfl⟩ := HQ.out
        rw [hk] at hc0
        exact hc0
      have hd : (k != k) = false := by simp
      have hd' : (k == k) = true := by simp
      clear hk hc0
      go_wp2
      go_quiet (fail)
      go_wp2
      go_roundw
      case rel => exact ⟨i + 1, by omega, by go_num, hid (drewN_more HQ.out _)⟩
      case measure => simp [intOf]; omega
    · obtain rfl : i = l.length := by omega
      go_wp2
      go_ret
      exact ⟨rfl, HQ.out⟩
end Go.Proofs.Ytidbkkebkgeioaa.Sl
