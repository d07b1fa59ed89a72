import Derived.Test.YthoammfpjheodaaRmF
import Derived.Test.YthoammfpjheodaaRzP
namespace Go.Proofs.Ythoammfpjheodaa.Rz
open Go.ChangeShapes Go.WideShapes Go.ChangeAt Go.RowKit Go.Joins
set_option linter.unusedVariables false
set_option maxRecDepth 100000
/-! ReasmMixes: the argument -/
noncomputable def fs34 : Array Field := match Try.prog.underlying 34 with | some (.struct fs) => fs | _ => #[]
theorem under34 : Try.prog.underlying 34 = some (.struct fs34) := by kernel_rfl
theorem fs34_2 : (fs34.toList.map fun x : Field => x.type)[2]? = some 32 := by kernel_rfl
noncomputable def fs26 : Array Field := match Try.prog.underlying 26 with | some (.struct fs) => fs | _ => #[]
theorem under26 : Try.prog.underlying 26 = some (.struct fs26) := by kernel_rfl
noncomputable def fs29 : Array Field := match Try.prog.underlying 29 with | some (.struct fs) => fs | _ => #[]
theorem under29 : Try.prog.underlying 29 = some (.struct fs29) := by kernel_rfl
theorem fs29_0 : (fs29.toList.map fun x : Field => x.type)[0]? = some 22 := by kernel_rfl
theorem cells34 : Try.prog.cellsOf 34 = 3 := by kernel_rfl
theorem cells29 : Try.prog.cellsOf 29 = 5 := by kernel_rfl
theorem cells26 : Try.prog.cellsOf 26 = 3 := by kernel_rfl
theorem cells3 : Try.prog.cellsOf 3 = 1 := by kernel_rfl
theorem mg_of {w : World} {H : Type} {enc : TypeId × Value → H} {held : Bool} {fuel : Nat} {cs : List Value} {y : DataW H × List MemPlace} {sp : Nat → Bool}
    (h : DataW.trod enc Try.prog w 0 sp held fuel 34 cs = some y) : ∃ p : Mg, cs = p.cells ∧ ((∀ n ∈ y.1.weights Try.prog 34, n ≤ 140737488351232) → MIn w p) := by
  obtain ⟨ys, n, _, hyy, hlen, hyl, hf⟩ := DataW.trod_struct under34 h
  rw [cells34] at hlen
  match cs, hlen with
  | [v0, v1, v2], _ =>
    have hy : ∀ i, i < 3 → ∃ y, ys[i]? = some y := fun i hi => ⟨_, List.getElem?_eq_getElem (by rw [hyl]; exact hi)⟩
    obtain ⟨y0, e0⟩ := hy 0 (by decide)
    obtain ⟨y1, e1⟩ := hy 1 (by decide)
    obtain ⟨y2, e2⟩ := hy 2 (by decide)
    have t0 : DataW.trod enc Try.prog w 0 sp held n 3 [v0] = some y0 := (hf 0 _ rfl).trans e0
    have t1 : DataW.trod enc Try.prog w 0 sp held n 4 [v1] = some y1 := (hf 1 _ rfl).trans e1
    have t2 : DataW.trod enc Try.prog w 0 sp held n 32 [v2] = some y2 := (hf 2 _ rfl).trans e2
    obtain ⟨x0, q0, _, w0⟩ := DataW.trod_int Try.underlying3 t0
    obtain ⟨b1, q1, _⟩ := DataW.trod_bool Try.underlying4 t1
    obtain ⟨a2, l2, c2, q2⟩ := slice_form Try.underlying32 t2
    simp only [List.cons.injEq, and_true] at q0 q1 q2
    subst q0 q1 q2
    obtain ⟨xs, hx, hc, hnil, hcap, hby, hm⟩ := txt_of t2
    subst hx
    refine ⟨⟨x0, b1, a2, xs, c2⟩, rfl, fun hw => ⟨hc, hnil, hcap, hm fun k hk => hw k ?_, hby⟩⟩
    rw [hyy]
    rw [show DataW.weights Try.prog 34 (DataW.agg (ys.map (·.1))) = DataW.weightsEach Try.prog (fs34.toList.map fun x : Field => x.type) (ys.map (·.1)) by simp only [DataW.weights, under34]]
    exact DataW.weights_mem_each (j := 2) (t := 32) (d := y2.1) fs34_2 (by rw [List.getElem?_map, e2]; rfl) k hk
theorem mr_of {w : World} {H : Type} {enc : TypeId × Value → H} {held : Bool} {fuel : Nat} {a : Option Addr} {len cap : Nat} {y : DataW H × List MemPlace} {sp : Nat → Bool}
    (h : DataW.trod enc Try.prog w 0 sp held fuel 22 [.slice a len cap] = some y) : ∃ xs : List Mg, xs.length = len ∧ ((∀ n ∈ y.1.weights Try.prog 22, n ≤ 140737488351232) → MR w a cap xs) := by
  rcases Deep.open_slice Try.underlying22 h with ⟨hcs, hx⟩ | ⟨a', len', cap', m, n, D, Pl, hcs, _, hl, hm, hmm, hx, hi⟩
  · simp at hcs
    obtain ⟨rfl, rfl, rfl⟩ := hcs
    exact ⟨[], rfl, fun _ => ⟨fun i h => by simp at h, fun p hp => by simp at hp, fun _ => rfl, Nat.le_refl _⟩⟩
  · simp at hcs
    obtain ⟨rfl, rfl, rfl⟩ := hcs
    have hlm : len ≤ m := by rw [hmm]; split <;> omega
    rw [cells34] at hi
    obtain ⟨xs, hxl, hxs⟩ := exists_list (P := fun i p => ∃ cs, cs = Mg.cells p ∧ (∀ j u, cs[j]? = some u → w.cell? (a'.add (i * 3 + j)) = some u) ∧ ((∀ n ∈ (D i).weights Try.prog 34, n ≤ 140737488351232) → MIn w p)) len (by
      intro i hil
      obtain ⟨cs, hc, ht⟩ := hi i (by omega)
      obtain ⟨p, hK, h3⟩ := mg_of ht
      obtain ⟨_, hcl, hat⟩ := World.cells?_some hc
      refine ⟨p, cs, hK, fun j u hj => ?_, h3⟩
      have hj7 : j < 3 := by rw [← hcl]; exact (List.getElem?_eq_some_iff.1 hj).1
      rw [← Deep.add_add, hat j hj7, hj])
    unfold maxLen at hm
    refine ⟨xs, hxl, fun hw => ⟨fun i hi => ?_, fun p hp => ?_, fun h => (by cases h), by omega⟩⟩
    · obtain ⟨cs, hK, hc, _⟩ := hxs i hi
      have hat : ∀ k (hk : k < 3), w.cell? (a'.add (i * 3 + k)) = some (xs[i].cells[k]'hk) := fun k hk => hc k _ (by rw [hK]; exact List.getElem?_eq_getElem hk)
      exact ⟨a', rfl, block_lt (hat 0 (by decide)), hat⟩
    · obtain ⟨j, hj, rfl⟩ := List.mem_iff_getElem.1 hp
      obtain ⟨cs, hK, hc, h3⟩ := hxs j hj
      refine h3 fun k hk => hw k ?_
      rw [hx]
      simp only [DataW.weights, Try.underlying22]
      refine List.mem_cons_of_mem _ (List.mem_append_left _ (weights_all 34 _ _ (List.mem_map.2 ⟨j, List.mem_range.2 (by omega), rfl⟩) k hk))
theorem nr_of {w : World} {H : Type} {enc : TypeId × Value → H} {held : Bool} {fuel : Nat} {a : Option Addr} {len cap : Nat} {y : DataW H × List MemPlace} {sp : Nat → Bool}
    (h : DataW.trod enc Try.prog w 0 sp held fuel 27 [.slice a len cap] = some y) : ∃ xs : List Int, xs.length = len ∧ NR w a cap xs := by
  rcases open_ints Try.underlying27 Try.underlying3 cells3 h with ⟨hcs, hx⟩ | ⟨a', len', cap', zs, hcs, _, hl, hm, hz, hx, hcell, hwz⟩
  · simp at hcs
    obtain ⟨rfl, rfl, rfl⟩ := hcs
    exact ⟨[], rfl, ⟨fun i h => by simp at h⟩⟩
  · simp at hcs
    obtain ⟨rfl, rfl, rfl⟩ := hcs
    have hzl : len ≤ zs.length := by rw [hz]; split <;> omega
    refine ⟨zs.take len, by simp; omega, ⟨fun i hi => ?_⟩⟩
    have hi' : i < len := by simp at hi; omega
    have h2 := hcell i (by omega)
    refine ⟨a', rfl, block_lt h2, ?_⟩
    rw [h2, List.getElem_take]
    simp [show i < zs.length by omega]
theorem mix_of {w : World} {H : Type} {enc : TypeId × Value → H} {held : Bool} {fuel : Nat} {cs : List Value} {y : DataW H × List MemPlace} {sp : Nat → Bool}
    (h : DataW.trod enc Try.prog w 0 sp held fuel 29 cs = some y) : ∃ (Al : Option Addr) (cl : Nat) (l : List Mg) (tsn seq z : Int) (Ao : Option Addr) (co : Nat) (ord : List Int), cs = [.slice Al l.length cl, .int .u32 tsn, .int .u16 seq, .int .i64 z, .slice Ao ord.length co] ∧ ((∀ n ∈ y.1.weights Try.prog 29, n ≤ 140737488351232) → MR w Al cl l) ∧ NR w Ao co ord ∧ U32 tsn := by
  obtain ⟨ys, n, _, hyy, hlen, hyl, hf⟩ := DataW.trod_struct under29 h
  rw [cells29] at hlen
  match cs, hlen with
  | [v0, v1, v2, v3, v4], _ =>
    have hy : ∀ i, i < 3 → ∃ y, ys[i]? = some y := fun i hi => ⟨_, List.getElem?_eq_getElem (by rw [hyl]; exact hi)⟩
    obtain ⟨y0, e0⟩ := hy 0 (by decide)
    obtain ⟨y1, e1⟩ := hy 1 (by decide)
    obtain ⟨y2, e2⟩ := hy 2 (by decide)
    have t0 : DataW.trod enc Try.prog w 0 sp held n 22 [v0] = some y0 := (hf 0 _ rfl).trans e0
    have t1 : DataW.trod enc Try.prog w 0 sp held n 26 [v1, v2, v3] = some y1 := (hf 1 _ rfl).trans e1
    have t2 : DataW.trod enc Try.prog w 0 sp held n 27 [v4] = some y2 := (hf 2 _ rfl).trans e2
    obtain ⟨a0, l0, c0, q0⟩ := slice_form Try.underlying22 t0
    obtain ⟨a2, l2, c2, q2⟩ := slice_form Try.underlying27 t2
    obtain ⟨zs, n2, _, hzz, _, hzl, hg⟩ := DataW.trod_struct under26 t1
    have hz : ∀ i, i < 3 → ∃ y, zs[i]? = some y := fun i hi => ⟨_, List.getElem?_eq_getElem (by rw [hzl]; exact hi)⟩
    obtain ⟨z0, d0⟩ := hz 0 (by decide)
    obtain ⟨z1, d1⟩ := hz 1 (by decide)
    obtain ⟨z2, d2⟩ := hz 2 (by decide)
    have s0 : DataW.trod enc Try.prog w 0 sp held n2 23 [v1] = some z0 := (hg 0 _ rfl).trans d0
    have s1 : DataW.trod enc Try.prog w 0 sp held n2 24 [v2] = some z1 := (hg 1 _ rfl).trans d1
    have s2 : DataW.trod enc Try.prog w 0 sp held n2 3 [v3] = some z2 := (hg 2 _ rfl).trans d2
    obtain ⟨x1, o1, _, w1⟩ := DataW.trod_int Try.underlying23 s0
    obtain ⟨x2, o2, _, w2⟩ := DataW.trod_int Try.underlying24 s1
    obtain ⟨x3, o3, _, w3⟩ := DataW.trod_int Try.underlying3 s2
    simp only [List.cons.injEq, and_true] at q0 q2 o1 o2 o3
    subst q0 q2 o1 o2 o3
    obtain ⟨xs, rfl, hm⟩ := mr_of t0
    obtain ⟨os, rfl, ho⟩ := nr_of t2
    refine ⟨a0, c0, xs, x1, x2, x3, a2, c2, os, rfl, fun hw => hm fun k hk => hw k ?_, ho, u32_of w1⟩
    rw [hyy]
    rw [show DataW.weights Try.prog 29 (DataW.agg (ys.map (·.1))) = DataW.weightsEach Try.prog (fs29.toList.map fun x : Field => x.type) (ys.map (·.1)) by simp only [DataW.weights, under29]]
    exact DataW.weights_mem_each (j := 0) (t := 22) (d := y0.1) fs29_0 (by rw [List.getElem?_map, e0]; rfl) k hk
end Go.Proofs.Ythoammfpjheodaa.Rz
