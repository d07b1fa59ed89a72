import Derived.Test.YthoammfpjheodaaOrX
import Derived.Deep.Slices
import Derived.Deep.Fields
import Derived.ChangeSame
import Derived.WalkKit
import Derived.ProofKit
import Derived.OpenShut
import Derived.ChangeOld
import Derived.SizedLaws
import Derived.Lib.SmallJoins
namespace Go.Proofs.Ythoammfpjheodaa.Or
open Go.ChangeShapes Go.WideShapes Go.ChangeAt Go.RowKit Go.Joins
open Rz (below_alloc lt_of_cell add_block Txt)
set_option linter.unusedVariables false
set_option maxRecDepth 100000
/-! acts among the arguments -/
noncomputable def fs34 : Array Field := match Try.prog.underlying 34 with | some (.struct fs) => fs | _ => #[]
theorem under34 : Try.prog.underlying 34 = some (.struct fs34) := by kernel_rfl
theorem fs34_2 : (fs34.toList.map fun x : Field => x.type)[2]? = some 32 := by kernel_rfl
noncomputable def fs56 : Array Field := match Try.prog.underlying 56 with | some (.struct fs) => fs | _ => #[]
theorem under56 : Try.prog.underlying 56 = some (.struct fs56) := by kernel_rfl
theorem fs56_2 : (fs56.toList.map fun x : Field => x.type)[2]? = some 34 := by kernel_rfl
theorem cells56 : Try.prog.cellsOf 56 = 5 := by kernel_rfl
theorem cells34 : Try.prog.cellsOf 34 = 3 := by kernel_rfl
theorem cells5 : Try.prog.cellsOf 5 = 1 := by kernel_rfl
theorem exists_list {α : Type} {P : Nat → α → Prop} : ∀ n : Nat, (∀ i, i < n → ∃ p, P i p) → ∃ xs : List α, xs.length = n ∧ ∀ i (h : i < xs.length), P i xs[i] := by
  intro n
  induction n with
  | zero => exact fun _ => ⟨[], rfl, fun i h => by simp at h⟩
  | succ n ih =>
    intro h
    obtain ⟨xs, hl, hx⟩ := ih fun i hi => h i (by omega)
    obtain ⟨p, hp⟩ := h n (by omega)
    refine ⟨xs ++ [p], by rw [List.length_append, List.length_singleton, hl], fun i hi => ?_⟩
    rw [List.length_append, List.length_singleton, hl] at hi
    rcases Nat.lt_or_ge i n with h1 | h1
    · rw [List.getElem_append_left (by rw [hl]; exact h1)]
      exact hx i (by rw [hl]; exact h1)
    · obtain rfl : i = n := by omega
      rw [List.getElem_append_right (by rw [hl]; exact Nat.le_refl _)]
      simpa [hl] using hp
theorem bytes5 : Try.prog.bytesOf 5 = 1 := by kernel_rfl
theorem weights_all {H : Type} (e : TypeId) : ∀ (ds : List (DataW H)) (d : DataW H), d ∈ ds → ∀ n ∈ d.weights Try.prog e, n ∈ DataW.weightsAll Try.prog e ds := by
  intro ds
  induction ds with
  | nil => intro d hd; simp at hd
  | cons a r ih =>
    intro d hd n hn
    simp only [DataW.weightsAll, List.mem_append]
    rcases List.mem_cons.1 hd with rfl | hd
    · exact .inl hn
    · exact .inr (ih d hd n hn)
theorem block_lt {w : World} {a : Addr} {n : Nat} {v : Value} (h : w.cell? (a.add n) = some v) : a.block < w.heap.size := by
  rcases Nat.lt_or_ge a.block w.heap.size with hb | hb
  · exact hb
  · unfold World.cell? at h
    rw [add_block, Array.getElem?_eq_none hb] at h
    simp at h
/-- Bytes. -/
theorem txt_of {w : World} {H : Type} {enc : TypeId × Value → H} {held : Bool} {fuel : Nat} {a : Option Addr} {len cap : Nat} {y : DataW H × List MemPlace} {sp : Nat → Bool}
    (h : DataW.trod enc Try.prog w 0 sp held fuel 32 [.slice a len cap] = some y) : ∃ xs : List Int, xs.length = len ∧ Txt w a xs ∧ (a = none → cap = 0) ∧ len ≤ cap ∧ (∀ x ∈ xs, 0 ≤ x ∧ x < 256) ∧ ((∀ n ∈ y.1.weights Try.prog 32, n ≤ 140737488351232) → len ≤ 140737488351232) := by
  rcases open_ints Try.underlying32 Try.underlying5 cells5 h with ⟨hcs, hx⟩ | ⟨a', len', cap', zs, hcs, _, hl, hm, hz, hx, hcell, hwz⟩
  · simp at hcs
    obtain ⟨rfl, rfl, rfl⟩ := hcs
    exact ⟨[], rfl, fun i h => by simp at h, fun _ => rfl, Nat.le_refl _, (fun x h => by cases h), fun _ => by omega⟩
  · simp at hcs
    obtain ⟨rfl, rfl, rfl⟩ := hcs
    have hzl : len ≤ zs.length := by rw [hz]; split <;> omega
    have hlen : (zs.take len).length = len := by simp; omega
    unfold maxLen at hm
    refine ⟨zs.take len, hlen, fun i hi => ?_, fun h => (by cases h), hl, fun x hx => ?_, fun hw => ?_⟩
    · have hi' : i < len := by simp at hi; omega
      have h2 := hcell i (by omega)
      refine ⟨a', rfl, block_lt h2, ?_⟩
      rw [h2, List.getElem_take]
      simp [show i < zs.length by omega]
    · have := hwz x (List.mem_of_mem_take hx)
      simp [Lit.wf, IntKind.min, IntKind.max, IntKind.signed, IntKind.bits] at this
      omega
    · rw [hx] at hw
      simp only [DataW.weights, Try.underlying32, bytes5, Nat.mul_one] at hw
      have := hw _ List.mem_cons_self
      simp [lits] at this
      omega
theorem u16_of {x : Int} (h : (Lit.int .u16 x).wf = true) : 0 ≤ x ∧ x ≤ 65535 := by
  simp [Lit.wf, IntKind.min, IntKind.max, IntKind.signed, IntKind.bits] at h
  omega
theorem mg_of {w : World} {H : Type} {enc : TypeId × Value → H} {held : Bool} {fuel : Nat} {cs : List Value} {y : DataW H × List MemPlace} {sp : Nat → Bool}
    (h : DataW.trod enc Try.prog w 0 sp held fuel 34 cs = some y) : ∃ p : Mg, cs = p.cells ∧ ((∀ n ∈ y.1.weights Try.prog 34, n ≤ 140737488351232) → MIn w p) := by
  obtain ⟨ys, n, _, hyy, hlen, hyl, hf⟩ := DataW.trod_struct under34 h
  rw [cells34] at hlen
  match cs, hlen with
  | [v0, v1, v2], _ =>
    have hy : ∀ i, i < 3 → ∃ y, ys[i]? = some y := fun i hi => ⟨_, List.getElem?_eq_getElem (by rw [hyl]; exact hi)⟩
    obtain ⟨y0, e0⟩ := hy 0 (by decide)
    obtain ⟨y1, e1⟩ := hy 1 (by decide)
    obtain ⟨y2, e2⟩ := hy 2 (by decide)
    have t0 : DataW.trod enc Try.prog w 0 sp held n 3 [v0] = some y0 := (hf 0 _ rfl).trans e0
    have t1 : DataW.trod enc Try.prog w 0 sp held n 4 [v1] = some y1 := (hf 1 _ rfl).trans e1
    have t2 : DataW.trod enc Try.prog w 0 sp held n 32 [v2] = some y2 := (hf 2 _ rfl).trans e2
    obtain ⟨x0, q0, _, w0⟩ := DataW.trod_int Try.underlying3 t0
    obtain ⟨b1, q1, _⟩ := DataW.trod_bool Try.underlying4 t1
    obtain ⟨a2, l2, c2, q2⟩ := slice_form Try.underlying32 t2
    simp only [List.cons.injEq, and_true] at q0 q1 q2
    subst q0 q1 q2
    obtain ⟨xs, hx, hc, hnil, hcap, hby, hm⟩ := txt_of t2
    subst hx
    refine ⟨⟨x0, b1, a2, xs, c2⟩, rfl, fun hw => ⟨hc, hnil, hcap, hm fun k hk => hw k ?_, hby⟩⟩
    rw [hyy]
    rw [show DataW.weights Try.prog 34 (DataW.agg (ys.map (·.1))) = DataW.weightsEach Try.prog (fs34.toList.map fun x : Field => x.type) (ys.map (·.1)) by simp only [DataW.weights, under34]]
    exact DataW.weights_mem_each (j := 2) (t := 32) (d := y2.1) fs34_2 (by rw [List.getElem?_map, e2]; rfl) k hk
theorem act_of {w : World} {H : Type} {enc : TypeId × Value → H} {held : Bool} {fuel : Nat} {cs : List Value} {y : DataW H × List MemPlace} {sp : Nat → Bool}
    (h : DataW.trod enc Try.prog w 0 sp held fuel 56 cs = some y) : ∃ p : Ac, cs = p.cells ∧ (0 ≤ p.q ∧ p.q ≤ 65535) ∧ ((∀ n ∈ y.1.weights Try.prog 56, n ≤ 140737488351232) → MIn w p.m) := by
  obtain ⟨ys, n, _, hyy, hlen, hyl, hf⟩ := DataW.trod_struct under56 h
  rw [cells56] at hlen
  match cs, hlen with
  | [v0, v1, v2, v3, v4], _ =>
    have hy : ∀ i, i < 3 → ∃ y, ys[i]? = some y := fun i hi => ⟨_, List.getElem?_eq_getElem (by rw [hyl]; exact hi)⟩
    obtain ⟨y0, e0⟩ := hy 0 (by decide)
    obtain ⟨y1, e1⟩ := hy 1 (by decide)
    obtain ⟨y2, e2⟩ := hy 2 (by decide)
    have t0 : DataW.trod enc Try.prog w 0 sp held n 4 [v0] = some y0 := (hf 0 _ rfl).trans e0
    have t1 : DataW.trod enc Try.prog w 0 sp held n 24 [v1] = some y1 := (hf 1 _ rfl).trans e1
    have t2 : DataW.trod enc Try.prog w 0 sp held n 34 [v2, v3, v4] = some y2 := (hf 2 _ rfl).trans e2
    obtain ⟨b0, q0, _⟩ := DataW.trod_bool Try.underlying4 t0
    obtain ⟨x1, q1, _, w1⟩ := DataW.trod_int Try.underlying24 t1
    obtain ⟨m, hm, hmi⟩ := mg_of t2
    simp only [List.cons.injEq, and_true] at q0 q1
    subst q0 q1
    refine ⟨⟨b0, x1, m⟩, ?_, u16_of w1, fun hw => hmi fun k hk => hw k ?_⟩
    · show [_, _, v2, v3, v4] = [_, _, _, _, _]
      rw [show [v2, v3, v4] = [.int .i64 m.s, .bool m.u, .slice m.A m.x.length m.c] from hm]
    rw [hyy]
    rw [show DataW.weights Try.prog 56 (DataW.agg (ys.map (·.1))) = DataW.weightsEach Try.prog (fs56.toList.map fun x : Field => x.type) (ys.map (·.1)) by simp only [DataW.weights, under56]]
    exact DataW.weights_mem_each (j := 2) (t := 34) (d := y2.1) fs56_2 (by rw [List.getElem?_map, e2]; rfl) k hk
/-- Acts. -/
theorem acts_of {w : World} {H : Type} {enc : TypeId × Value → H} {held : Bool} {fuel : Nat} {a : Option Addr} {len cap : Nat} {y : DataW H × List MemPlace} {sp : Nat → Bool}
    (h : DataW.trod enc Try.prog w 0 sp held fuel 51 [.slice a len cap] = some y) : ∃ xs : List Ac, xs.length = len ∧ ((∀ n ∈ y.1.weights Try.prog 51, n ≤ 140737488351232) → AR w a cap xs) := by
  rcases Deep.open_slice Try.underlying51 h with ⟨hcs, hx⟩ | ⟨a', len', cap', m, n, D, Pl, hcs, _, hl, hm, hmm, hx, hi⟩
  · simp at hcs
    obtain ⟨rfl, rfl, rfl⟩ := hcs
    exact ⟨[], rfl, fun _ => ⟨fun i h => by simp at h, fun p hp => by simp at hp, fun p hp => by simp at hp, fun _ => rfl, Nat.le_refl _, by decide⟩⟩
  · simp at hcs
    obtain ⟨rfl, rfl, rfl⟩ := hcs
    have hlm : len ≤ m := by rw [hmm]; split <;> omega
    rw [cells56] at hi
    obtain ⟨xs, hxl, hxs⟩ := exists_list (P := fun i p => ∃ cs, cs = Ac.cells p ∧ (∀ j u, cs[j]? = some u → w.cell? (a'.add (i * 5 + j)) = some u) ∧ (0 ≤ p.q ∧ p.q ≤ 65535) ∧ ((∀ n ∈ (D i).weights Try.prog 56, n ≤ 140737488351232) → MIn w p.m)) len (by
      intro i hil
      obtain ⟨cs, hc, ht⟩ := hi i (by omega)
      obtain ⟨p, hK, hq, h3⟩ := act_of ht
      obtain ⟨_, hcl, hat⟩ := World.cells?_some hc
      refine ⟨p, cs, hK, fun j u hj => ?_, hq, h3⟩
      have hj7 : j < 5 := by rw [← hcl]; exact (List.getElem?_eq_some_iff.1 hj).1
      rw [← Deep.add_add, hat j hj7, hj])
    unfold maxLen at hm
    refine ⟨xs, hxl, fun hw => ⟨fun i hi => ?_, fun p hp => ?_, fun p hp => ?_, fun h => (by cases h), by omega, by omega⟩⟩
    · obtain ⟨cs, hK, hc, _⟩ := hxs i hi
      have hat : ∀ k (hk : k < 5), w.cell? (a'.add (i * 5 + k)) = some (xs[i].cells[k]'hk) := fun k hk => hc k _ (by rw [hK]; exact List.getElem?_eq_getElem hk)
      exact ⟨a', rfl, block_lt (hat 0 (by decide)), hat⟩
    · obtain ⟨j, hj, rfl⟩ := List.mem_iff_getElem.1 hp
      obtain ⟨cs, hK, hc, hq, h3⟩ := hxs j hj
      refine h3 fun k hk => hw k ?_
      rw [hx]
      simp only [DataW.weights, Try.underlying51]
      refine List.mem_cons_of_mem _ (List.mem_append_left _ (weights_all 56 _ _ (List.mem_map.2 ⟨j, List.mem_range.2 (by omega), rfl⟩) k hk))
    · obtain ⟨j, hj, rfl⟩ := List.mem_iff_getElem.1 hp
      obtain ⟨cs, hK, hc, hq, h3⟩ := hxs j hj
      exact hq
end Go.Proofs.Ythoammfpjheodaa.Or
