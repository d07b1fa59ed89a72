import Derived.Test.YthoammfpjheodaaRzA
namespace Go.Proofs.Ythoammfpjheodaa.Rz
open Go.ChangeShapes Go.WideShapes Go.ChangeAt Go.RowKit Go.Shelf MK
open Base (hid cell_new1 cell_old1 froz_new1 froz_old1)
attribute [local go_sem] Oper.semAt_some
set_option linter.unusedVariables false
set_option linter.unusedSimpArgs false
set_option maxRecDepth 100000
theorem own_low {w : World} {B B' e s n : Nat} {v : Value} {xs : List Value} (h : w.ownsRow B' e s v n xs) (hB : B ≤ B') : w.ownsRow B e s v n xs :=
  ⟨h.1, h.2.imp id (fun ⟨g, cap, cur, a, b, c⟩ => ⟨g, cap, cur, a, Nat.le_trans hB b, c⟩)⟩
theorem own_base {w : World} {B : Nat} {e : TypeId} {size : Nat} {v : Value} {n : Nat} {xs : List Value} (h : w.ownsRow B e size v n xs) {k : Nat} (hk : v.ownBlock = some k) : B ≤ k ∧ k < w.heap.size := by
  rcases h.2 with ⟨rfl, _⟩ | ⟨g, cap, cur, rfl, hb, hg, _⟩
  · simp [Value.ownBlock] at hk
  · simp [Value.ownBlock] at hk
    subst hk
    exact ⟨hb, (Array.getElem?_eq_some_iff.1 hg).1⟩
theorem within_calls (n a b : Int) (w : World) : Calls Try.prog 43 #[.int .i64 n, .int .i64 a, .int .i64 b] w fun e w' => e = .returned (.bool (decide (a ≤ n) && decide (n ≤ b))) ∧ w = w' := by
  go_enter Try.func43, Try.ntmps43
  by_cases h1 : a ≤ n
  · have d1 : decide (a ≤ n) = true := by simpa using h1
    go_wp2
    go_ret
    exact ⟨by simp [h1], rfl⟩
  · have d1 : decide (a ≤ n) = false := by simpa using h1
    go_wp2
    go_ret
    exact ⟨by simp [h1], rfl⟩
theorem step_val (a n : Int) : IntKind.u32.wrap (a + IntKind.u32.wrap n) = step a n := by
  have h : ∀ x, IntKind.u32.wrap x = x % 4294967296 := fun _ => rfl
  rw [h, h]
  unfold step
  omega
theorem step_calls (a n : Int) (w : World) : Calls Try.prog 45 #[.int .u32 a, .int .i64 n] w fun e w' => e = .returned (.int .u32 (step a n)) ∧ w = w' := by
  go_enter Try.func45, Try.ntmps45
  go_wp2
  go_ret
  exact ⟨by rw [← step_val]; rfl, rfl⟩
def rightP (p : Pm) : Bool := decide (1 ≤ p.x.length) && decide (p.x.length ≤ 64) && decide (p.s < 8)
theorem right_calls (p : Pm) (w : World) : Calls Try.prog 90 #[p.val] w fun e w' => e = .returned (.bool (rightP p)) ∧ Below w.heap.size w w' := by
  unfold rightP Pm.val
  by_cases h1 : 1 ≤ p.x.length
  · have d1 : decide ((1 : Int) ≤ (p.x.length : Int)) = true := by simp; omega
    by_cases h2 : p.x.length ≤ 64
    · have d2 : decide ((p.x.length : Int) ≤ 64) = true := by simp; omega
      go_enter Try.func90, Try.ntmps90
      go_wp2
      go_ret
      refine ⟨?_, below_alloc (Below.refl _ _) _⟩
      simp [h1, h2]
    · have d2 : decide ((p.x.length : Int) ≤ 64) = false := by simp; omega
      go_enter Try.func90, Try.ntmps90
      go_wp2
      go_ret
      refine ⟨?_, below_alloc (Below.refl _ _) _⟩
      simp [h1, h2]
  · have d1 : decide ((1 : Int) ≤ (p.x.length : Int)) = false := by simp; omega
    go_enter Try.func90, Try.ntmps90
    go_wp2
    go_ret
    refine ⟨?_, below_alloc (Below.refl _ _) _⟩
    simp [h1]
theorem box_at {W : World} {b : Nat} {vs : Array Value} {t : TypeId} (h : W.heap[b]? = some (.cells vs t)) (i : Nat) : W.cell? ⟨b, i, none⟩ = vs[i]? ∧ W.frozen? ⟨b, i, none⟩ = false := by
  simp [World.cell?, World.frozen?, h]
theorem box_new (w : World) (o : Obj) {b : Nat} (hb : b = w.heap.size) : (w.alloc o).heap[b]? = some o := by
  subst hb
  exact World.alloc_heap_new w o
theorem box_old {w : World} {o o' : Obj} {b : Nat} (h : w.heap[b]? = some o) : (w.alloc o').heap[b]? = some o :=
  (Below.heap_alloc _ _ _ (Array.getElem?_eq_some_iff.1 h).1).trans h
theorem setCells_grown (g : Nat) : ∀ (vs : List Value) (o : Nat) (W : World), W.grownBy (W.setCells g o vs) (some g)
  | [], _, W => World.grownBy.refl _ _
  | v :: vs, o, W => (show W.grownBy (W.setCell ⟨g, o, none⟩ v) (some g) from ⟨rfl, rfl, rfl, by simp [World.setCell], fun k h1 h2 => by
      have : g ≠ k := fun e => h2 (by rw [e])
      simp [World.setCell, Array.getElem?_modify, this]⟩).trans (setCells_grown g vs (o + 1) _)
theorem grown_setAt (W : World) (g o : Nat) (v : Value) : W.grownBy (W.setCell ⟨g, o, none⟩ v) (some g) := setCells_grown g [v] o W
theorem fin7 {W : World} {b : Nat} {v0 v1 v2 v3 v4 v5 v6 : Value} (h : ∀ i, i < 7 → (W.cell? ⟨b, i, none⟩).isSome = true) (i : Nat) (hi : i < 7) :
    (W.setCells b 0 [v0, v1, v2, v3, v4, v5, v6]).cell? ⟨b, i, none⟩ = some ([v0, v1, v2, v3, v4, v5, v6][i]'hi) := by
  have := World.cell?_setCells_in b [v0, v1, v2, v3, v4, v5, v6] 0 W (fun j hj => by rw [Nat.zero_add]; exact h j hj) i hi
  rwa [Nat.zero_add] at this
theorem results7 {fn : Func} {k : Nat} (h : fn.results = #[.cell k 40]) {tmps : Array Value} {b : Nat} {v0 v1 v2 v3 v4 v5 v6 : Value} {w : World} (ht : tmps[k]? = some (.pointer (some ⟨b, 0, none⟩)))
    (hc : ∀ i (hi : i < 7), w.cell? ⟨b, i, none⟩ = some ([v0, v1, v2, v3, v4, v5, v6][i]'hi)) :
    (results fn tmps).run Try.prog w = .ok (.agg #[v0, v1, v2, v3, v4, v5, v6]) w := by
  have c0 := hc 0 (by decide)
  have c1 := hc 1 (by decide)
  have c2 := hc 2 (by decide)
  have c3 := hc 3 (by decide)
  have c4 := hc 4 (by decide)
  have c5 := hc 5 (by decide)
  have c6 := hc 6 (by decide)
  simp only [List.getElem_cons_zero, List.getElem_cons_succ] at c0 c1 c2 c3 c4 c5 c6
  simp only [results, h]
  simp [go_sem, c0, c1, c2, c3, c4, c5, c6, Sem.run_bind, Array.getD_eq_getD_getElem?, ht]
theorem copied_calls (p : Pm) (w : World) (h : Ok w p) : Calls Try.prog 80 #[p.val] w fun e w' => ∃ A' c', e = .returned (Pm.val { p with A := A', c := c' }) ∧ w'.ownsRow w.heap.size 5 1 (.slice A' p.x.length c') p.x.length (p.x.map (.int .u8)) ∧ Below w.heap.size w w' := by
  have H := hid h
  clear h
  unfold Pm.val
  go_enter Try.func80, Try.ntmps80
  go_wp2_with (go_at_call 46; go_must (refine (clone_calls p.A p.c p.x _ H.out.l (H.out.txt.below (below_alloc (below_alloc (Below.refl _ _) _) _)) H.out.nil).mono ?_; rintro e w1 ⟨A', c', rfl, ho, hb⟩; have HO := hid ho; have HB := hid hb; have e1 := (hb.block w.heap.size (by simp; omega)).trans (box_old (box_new w _ rfl)); have e2 := (hb.block (w.heap.size + 1) (by simp)).trans (box_new _ _ (by simp)); obtain ⟨a0, a0'⟩ := box_at e1 0; obtain ⟨a1, a1'⟩ := box_at e1 1; obtain ⟨a2, a2'⟩ := box_at e1 2; obtain ⟨a3, a3'⟩ := box_at e1 3; obtain ⟨a4, a4'⟩ := box_at e1 4; obtain ⟨a5, a5'⟩ := box_at e1 5; obtain ⟨a6, a6'⟩ := box_at e1 6; obtain ⟨b0, b0'⟩ := box_at e2 0; obtain ⟨b1, b1'⟩ := box_at e2 1; obtain ⟨b2, b2'⟩ := box_at e2 2; obtain ⟨b3, b3'⟩ := box_at e2 3; obtain ⟨b4, b4'⟩ := box_at e2 4; obtain ⟨b5, b5'⟩ := box_at e2 5; obtain ⟨b6, b6'⟩ := box_at e2 6; clear ho hb e1 e2))
  have hc : ∀ i, i < 7 → ((w1.setCell ⟨w.heap.size, 6, none⟩ (.slice A' p.x.length c')).cell? ⟨w.heap.size + 1, i, none⟩).isSome = true := by
    intro i hi
    rw [World.cell?_setCell_other _ _ _ _ (by simp)]
    match i, hi with
    | 0, _ => rw [b0]; rfl
    | 1, _ => rw [b1]; rfl
    | 2, _ => rw [b2]; rfl
    | 3, _ => rw [b3]; rfl
    | 4, _ => rw [b4]; rfl
    | 5, _ => rw [b5]; rfl
    | 6, _ => rw [b6]; rfl
  have g1 := grown_setAt w1 w.heap.size 6 (.slice A' p.x.length c')
  have g2 := setCells_grown (w.heap.size + 1) [.int .u32 p.t, .int .u16 p.s, .int .u16 p.q, .bool p.b, .bool p.e, .bool p.u, .slice A' p.x.length c'] 0 (w1.setCell ⟨w.heap.size, 6, none⟩ (.slice A' p.x.length c'))
  have hs1 := HB.out.size
  simp only [World.size_alloc] at hs1
  have hs2 := g1.size
  have hz := HO.out
  simp only [World.size_alloc] at hz
  refine bodyPost_ret (results7 rfl rfl (fin7 hc)) rfl ⟨A', c', rfl, ?_, ?_⟩
  · refine own_low ((hz.kept g1 ?_).kept g2 ?_) (by omega)
    · rcases hb : (Value.slice A' p.x.length c').ownBlock with _ | q
      · exact .inl rfl
      · exact .inr fun e => by have := (own_base hz hb).1; have := Option.some.inj e; omega
    · rcases hb : (Value.slice A' p.x.length c').ownBlock with _ | q
      · exact .inl rfl
      · exact .inr fun e => by have := (own_base hz hb).1; have := Option.some.inj e; omega
  · have hb0 : Below w.heap.size w w1 := (below_alloc (below_alloc (Below.refl _ w) _) _).trans (HB.out.mono (by simp; omega))
    exact (hb0.grown g1 (by omega) (fun k e => by have := Option.some.inj e; omega)).grown g2 (by omega) (fun k e => by have := Option.some.inj e; omega)
end Go.Proofs.Ythoammfpjheodaa.Rz
