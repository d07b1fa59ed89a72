import Derived.Test.YthoammfpjheodaaRzU
namespace Go.Proofs.Ythoammfpjheodaa.Rz
open Go.ChangeShapes Go.WideShapes Go.ChangeAt Go.RowKit Go.Joins
set_option linter.unusedVariables false
set_option maxRecDepth 100000
noncomputable def fs40 : Array Field := match Try.prog.underlying 40 with | some (.struct fs) => fs | _ => #[]
theorem under40 : Try.prog.underlying 40 = some (.struct fs40) := by kernel_rfl
theorem fs40_6 : (fs40.toList.map fun x : Field => x.type)[6]? = some 32 := by kernel_rfl
theorem exists_list {α : Type} {P : Nat → α → Prop} : ∀ n : Nat, (∀ i, i < n → ∃ p, P i p) → ∃ xs : List α, xs.length = n ∧ ∀ i (h : i < xs.length), P i xs[i] := by
  intro n
  induction n with
  | zero => exact fun _ => ⟨[], rfl, fun i h => by simp at h⟩
  | succ n ih =>
    intro h
    obtain ⟨xs, hl, hx⟩ := ih fun i hi => h i (by omega)
    obtain ⟨p, hp⟩ := h n (by omega)
    refine ⟨xs ++ [p], by rw [List.length_append, List.length_singleton, hl], fun i hi => ?_⟩
    rw [List.length_append, List.length_singleton, hl] at hi
    rcases Nat.lt_or_ge i n with h1 | h1
    · rw [List.getElem_append_left (by rw [hl]; exact h1)]
      exact hx i (by rw [hl]; exact h1)
    · obtain rfl : i = n := by omega
      rw [List.getElem_append_right (by rw [hl]; exact Nat.le_refl _)]
      simpa [hl] using hp
theorem cells5 : Try.prog.cellsOf 5 = 1 := by kernel_rfl
theorem cells40 : Try.prog.cellsOf 40 = 7 := by kernel_rfl
theorem bytes5 : Try.prog.bytesOf 5 = 1 := by kernel_rfl
theorem weights_all {H : Type} (e : TypeId) : ∀ (ds : List (DataW H)) (d : DataW H), d ∈ ds → ∀ n ∈ d.weights Try.prog e, n ∈ DataW.weightsAll Try.prog e ds := by
  intro ds
  induction ds with
  | nil => intro d hd; simp at hd
  | cons a r ih =>
    intro d hd n hn
    simp only [DataW.weightsAll, List.mem_append]
    rcases List.mem_cons.1 hd with rfl | hd
    · exact .inl hn
    · exact .inr (ih d hd n hn)
theorem block_lt {w : World} {a : Addr} {n : Nat} {v : Value} (h : w.cell? (a.add n) = some v) : a.block < w.heap.size := by
  rcases Nat.lt_or_ge a.block w.heap.size with hb | hb
  · exact hb
  · unfold World.cell? at h
    rw [add_block, Array.getElem?_eq_none hb] at h
    simp at h
/-- Bytes. -/
theorem txt_of {w : World} {H : Type} {enc : TypeId × Value → H} {held : Bool} {fuel : Nat} {a : Option Addr} {len cap : Nat} {y : DataW H × List MemPlace} {sp : Nat → Bool}
    (h : DataW.trod enc Try.prog w 0 sp held fuel 32 [.slice a len cap] = some y) : ∃ xs : List Int, xs.length = len ∧ Txt w a xs ∧ (a = none → cap = 0) ∧ len ≤ cap ∧ (∀ x ∈ xs, 0 ≤ x ∧ x < 256) ∧ ((∀ n ∈ y.1.weights Try.prog 32, n ≤ 140737488351232) → len ≤ 140737488351232) := by
  rcases open_ints Try.underlying32 Try.underlying5 cells5 h with ⟨hcs, hx⟩ | ⟨a', len', cap', zs, hcs, _, hl, hm, hz, hx, hcell, hwz⟩
  · simp at hcs
    obtain ⟨rfl, rfl, rfl⟩ := hcs
    exact ⟨[], rfl, fun i h => by simp at h, fun _ => rfl, Nat.le_refl _, (fun x h => by cases h), fun _ => by omega⟩
  · simp at hcs
    obtain ⟨rfl, rfl, rfl⟩ := hcs
    have hzl : len ≤ zs.length := by rw [hz]; split <;> omega
    have hlen : (zs.take len).length = len := by simp; omega
    unfold maxLen at hm
    refine ⟨zs.take len, hlen, fun i hi => ?_, fun h => (by cases h), hl, fun x hx => ?_, fun hw => ?_⟩
    · have hi' : i < len := by simp at hi; omega
      have h2 := hcell i (by omega)
      refine ⟨a', rfl, block_lt h2, ?_⟩
      rw [h2, List.getElem_take]
      simp [show i < zs.length by omega]
    · have := hwz x (List.mem_of_mem_take hx)
      simp [Lit.wf, IntKind.min, IntKind.max, IntKind.signed, IntKind.bits] at this
      omega
    · rw [hx] at hw
      simp only [DataW.weights, Try.underlying32, bytes5, Nat.mul_one] at hw
      have := hw _ List.mem_cons_self
      simp [lits] at this
      omega
theorem u16_of {x : Int} (h : (Lit.int .u16 x).wf = true) : 0 ≤ x ∧ x ≤ 65535 := by
  simp [Lit.wf, IntKind.min, IntKind.max, IntKind.signed, IntKind.bits] at h
  omega
theorem u32_of {x : Int} (h : (Lit.int .u32 x).wf = true) : U32 x := by
  unfold U32
  simp [Lit.wf, IntKind.min, IntKind.max, IntKind.signed, IntKind.bits] at h
  omega
/-- A piece's cells. -/
theorem piece_of {w : World} {H : Type} {enc : TypeId × Value → H} {held : Bool} {fuel : Nat} {cs : List Value} {y : DataW H × List MemPlace} {sp : Nat → Bool}
    (h : DataW.trod enc Try.prog w 0 sp held fuel 40 cs = some y) : ∃ p : Pm, cs = p.cells ∧ ((∀ n ∈ y.1.weights Try.prog 40, n ≤ 140737488351232) → Inp w p) := by
  obtain ⟨ys, n, _, hyy, hlen, hyl, hf⟩ := DataW.trod_struct under40 h
  rw [cells40] at hlen
  match cs, hlen with
  | [v0, v1, v2, v3, v4, v5, v6], _ =>
    have hy : ∀ i, i < 7 → ∃ y, ys[i]? = some y := fun i hi => ⟨_, List.getElem?_eq_getElem (by rw [hyl]; exact hi)⟩
    obtain ⟨y0, e0⟩ := hy 0 (by decide)
    obtain ⟨y1, e1⟩ := hy 1 (by decide)
    obtain ⟨y2, e2⟩ := hy 2 (by decide)
    obtain ⟨y3, e3⟩ := hy 3 (by decide)
    obtain ⟨y4, e4⟩ := hy 4 (by decide)
    obtain ⟨y5, e5⟩ := hy 5 (by decide)
    obtain ⟨y6, e6⟩ := hy 6 (by decide)
    have t0 : DataW.trod enc Try.prog w 0 sp held n 23 [v0] = some y0 := (hf 0 _ rfl).trans e0
    have t1 : DataW.trod enc Try.prog w 0 sp held n 24 [v1] = some y1 := (hf 1 _ rfl).trans e1
    have t2 : DataW.trod enc Try.prog w 0 sp held n 24 [v2] = some y2 := (hf 2 _ rfl).trans e2
    have t3 : DataW.trod enc Try.prog w 0 sp held n 4 [v3] = some y3 := (hf 3 _ rfl).trans e3
    have t4 : DataW.trod enc Try.prog w 0 sp held n 4 [v4] = some y4 := (hf 4 _ rfl).trans e4
    have t5 : DataW.trod enc Try.prog w 0 sp held n 4 [v5] = some y5 := (hf 5 _ rfl).trans e5
    have t6 : DataW.trod enc Try.prog w 0 sp held n 32 [v6] = some y6 := (hf 6 _ rfl).trans e6
    obtain ⟨x0, q0, _, w0⟩ := DataW.trod_int Try.underlying23 t0
    obtain ⟨x1, q1, _, w1⟩ := DataW.trod_int Try.underlying24 t1
    obtain ⟨x2, q2, _, w2⟩ := DataW.trod_int Try.underlying24 t2
    obtain ⟨b3, q3, _⟩ := DataW.trod_bool Try.underlying4 t3
    obtain ⟨b4, q4, _⟩ := DataW.trod_bool Try.underlying4 t4
    obtain ⟨b5, q5, _⟩ := DataW.trod_bool Try.underlying4 t5
    obtain ⟨a6, l6, c6, q6⟩ := slice_form Try.underlying32 t6
    simp only [List.cons.injEq, and_true] at q0 q1 q2 q3 q4 q5 q6
    subst q0 q1 q2 q3 q4 q5 q6
    obtain ⟨xs, hx, hc, hnil, hcap, hby, hm⟩ := txt_of t6
    subst hx
    refine ⟨⟨x0, x1, x2, b3, b4, b5, a6, xs, c6⟩, rfl, fun hw => ⟨hc, hnil, u32_of w0, u16_of w1, hm fun k hk => hw k ?_, u16_of w2, hby⟩⟩
    rw [hyy]
    rw [show DataW.weights Try.prog 40 (DataW.agg (ys.map (·.1))) = DataW.weightsEach Try.prog (fs40.toList.map fun x : Field => x.type) (ys.map (·.1)) by simp only [DataW.weights, under40]]
    exact DataW.weights_mem_each (j := 6) (t := 32) (d := y6.1) fs40_6 (by rw [List.getElem?_map, e6]; rfl) k hk
/-- Pieces. -/
theorem row_of {w : World} {H : Type} {enc : TypeId × Value → H} {held : Bool} {fuel : Nat} {a : Option Addr} {len cap : Nat} {y : DataW H × List MemPlace} {sp : Nat → Bool}
    (h : DataW.trod enc Try.prog w 0 sp held fuel 31 [.slice a len cap] = some y) : ∃ xs : List Pm, xs.length = len ∧ ((∀ n ∈ y.1.weights Try.prog 31, n ≤ 140737488351232) → InR w a cap xs) := by
  rcases Deep.open_slice Try.underlying31 h with ⟨hcs, hx⟩ | ⟨a', len', cap', m, n, D, Pl, hcs, _, hl, hm, hmm, hx, hi⟩
  · simp at hcs
    obtain ⟨rfl, rfl, rfl⟩ := hcs
    exact ⟨[], rfl, fun _ => ⟨fun i h => by simp at h, fun p hp => by simp at hp, fun _ => rfl, Nat.le_refl _, by decide⟩⟩
  · simp at hcs
    obtain ⟨rfl, rfl, rfl⟩ := hcs
    have hlm : len ≤ m := by rw [hmm]; split <;> omega
    rw [cells40] at hi
    obtain ⟨xs, hxl, hxs⟩ := exists_list (P := fun i p => ∃ cs, cs = Pm.cells p ∧ (∀ j u, cs[j]? = some u → w.cell? (a'.add (i * 7 + j)) = some u) ∧ ((∀ n ∈ (D i).weights Try.prog 40, n ≤ 140737488351232) → Inp w p)) len (by
      intro i hil
      obtain ⟨cs, hc, ht⟩ := hi i (by omega)
      obtain ⟨p, hK, h3⟩ := piece_of ht
      obtain ⟨_, hcl, hat⟩ := World.cells?_some hc
      refine ⟨p, cs, hK, fun j u hj => ?_, h3⟩
      have hj7 : j < 7 := by rw [← hcl]; exact (List.getElem?_eq_some_iff.1 hj).1
      rw [← Deep.add_add, hat j hj7, hj])
    unfold maxLen at hm
    refine ⟨xs, hxl, fun hw => ⟨fun i hi => ?_, fun p hp => ?_, fun h => (by cases h), by omega, by omega⟩⟩
    · obtain ⟨cs, hK, hc, _⟩ := hxs i hi
      have hat : ∀ k (hk : k < 7), w.cell? (a'.add (i * 7 + k)) = some (xs[i].cells[k]'hk) := fun k hk => hc k _ (by rw [hK]; exact List.getElem?_eq_getElem hk)
      exact ⟨a', rfl, block_lt (hat 0 (by decide)), hat⟩
    · obtain ⟨j, hj, rfl⟩ := List.mem_iff_getElem.1 hp
      obtain ⟨cs, hK, hc, h3⟩ := hxs j hj
      refine h3 fun k hk => hw k ?_
      rw [hx]
      simp only [DataW.weights, Try.underlying31]
      refine List.mem_cons_of_mem _ (List.mem_append_left _ (weights_all 40 _ _ (List.mem_map.2 ⟨j, List.mem_range.2 (by omega), rfl⟩) k hk))
end Go.Proofs.Ythoammfpjheodaa.Rz
