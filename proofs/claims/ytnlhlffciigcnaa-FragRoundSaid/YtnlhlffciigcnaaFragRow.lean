import Derived.Test.YtnlhlffciigcnaaQFragx0
import Derived.Deep.Slices
import Derived.Deep.Fields
import Derived.ChangeSame
import Derived.WalkKit
import Derived.ProofKit
import Derived.OpenShut
import Derived.ChangeOld
import Derived.SizedLaws
import Derived.Lib.SmallJoins
namespace Go.Proofs.Ytnlhlffciigcnaa.QFrag
open Go.ChangeShapes Go.WideShapes Go.ChangeAt Go.RowKit Go.Joins Go.Proofs.YtnlhlffciigcnaaW.PrintWords
set_option linter.unusedVariables false
set_option maxRecDepth 100000
noncomputable def fs93 : Array Field := match Try.prog.underlying 93 with | some (.struct fs) => fs | _ => #[]
theorem under93 : Try.prog.underlying 93 = some (.struct fs93) := by kernel_rfl
theorem fs93_6 : (fs93.toList.map fun x : Field => x.type)[6]? = some 75 := by kernel_rfl
theorem exists_list {α : Type} {P : Nat → α → Prop} : ∀ n : Nat, (∀ i, i < n → ∃ p, P i p) → ∃ xs : List α, xs.length = n ∧ ∀ i (h : i < xs.length), P i xs[i] := by
  intro n
  induction n with
  | zero => exact fun _ => ⟨[], rfl, fun i h => by simp at h⟩
  | succ n ih =>
    intro h
    obtain ⟨xs, hl, hx⟩ := ih fun i hi => h i (by omega)
    obtain ⟨p, hp⟩ := h n (by omega)
    refine ⟨xs ++ [p], by rw [List.length_append, List.length_singleton, hl], fun i hi => ?_⟩
    rw [List.length_append, List.length_singleton, hl] at hi
    rcases Nat.lt_or_ge i n with h1 | h1
    · rw [List.getElem_append_left (by rw [hl]; exact h1)]
      exact hx i (by rw [hl]; exact h1)
    · obtain rfl : i = n := by omega
      rw [List.getElem_append_right (by rw [hl]; exact Nat.le_refl _)]
      simpa [hl] using hp
theorem cells5 : Try.prog.cellsOf 5 = 1 := by kernel_rfl
theorem cells93 : Try.prog.cellsOf 93 = 7 := by kernel_rfl
theorem bytes5 : Try.prog.bytesOf 5 = 1 := by kernel_rfl
theorem weights_all {H : Type} (e : TypeId) : ∀ (ds : List (DataW H)) (d : DataW H), d ∈ ds → ∀ n ∈ d.weights Try.prog e, n ∈ DataW.weightsAll Try.prog e ds := by
  intro ds
  induction ds with
  | nil => intro d hd; simp at hd
  | cons a r ih =>
    intro d hd n hn
    simp only [DataW.weightsAll, List.mem_append]
    rcases List.mem_cons.1 hd with rfl | hd
    · exact .inl hn
    · exact .inr (ih d hd n hn)
/-- Bytes. -/
theorem row8_of {w : World} {H : Type} {enc : TypeId × Value → H} {held : Bool} {fuel : Nat} {a : Option Addr} {len cap : Nat} {y : DataW H × List MemPlace} {sp : Nat → Bool}
    (h : DataW.trod enc Try.prog w 0 sp held fuel 75 [.slice a len cap] = some y) : ∃ xs : List Int, xs.length = len ∧ len ≤ cap ∧ (Kd.int .u8).C w a xs.length xs ∧ ((∀ n ∈ y.1.weights Try.prog 75, n ≤ 140737488351232) → len ≤ 140737488351232) := by
  rcases open_ints Try.underlying75 Try.underlying5 cells5 h with ⟨hcs, hx⟩ | ⟨a', len', cap', zs, hcs, _, hl, hm, hz, hx, hcell, hwz⟩
  · simp at hcs
    obtain ⟨rfl, rfl, rfl⟩ := hcs
    refine ⟨[], rfl, Nat.le_refl _, Kd.C_of_reads (d := (0 : Int)) ⟨rfl, by decide, fun h => absurd h (by decide)⟩, fun _ => by omega⟩
  · simp at hcs
    obtain ⟨rfl, rfl, rfl⟩ := hcs
    have hzl : len ≤ zs.length := by rw [hz]; split <;> omega
    have hlen : (zs.take len).length = len := by simp; omega
    unfold maxLen at hm
    refine ⟨zs.take len, hlen, hl, Kd.C_of_reads (d := (0 : Int)) ⟨?_, ?_, ?_⟩, fun hw => ?_⟩
    · rfl
    · rw [hlen]; omega
    · intro h0
      refine ⟨a', rfl, fun j hj => ?_⟩
      rw [hcell j (by omega)]
      congr 2
      rw [hlen] at hj
      simp [List.getD, List.getElem?_take_of_lt hj]
    · rw [hx] at hw
      simp only [DataW.weights, Try.underlying75, bytes5, Nat.mul_one] at hw
      have := hw _ List.mem_cons_self
      simp [lits] at this
      omega
/-- A piece's cells. -/
theorem piece_of {w : World} {H : Type} {enc : TypeId × Value → H} {held : Bool} {fuel : Nat} {cs : List Value} {y : DataW H × List MemPlace} {sp : Nat → Bool}
    (h : DataW.trod enc Try.prog w 0 sp held fuel 93 cs = some y) : ∃ p : S93, k93.K w p cs ∧ 0 ≤ p.f0 ∧ p.f0 < 4294967296 ∧ ((∀ n ∈ y.1.weights Try.prog 93, n ≤ 140737488351232) → p.f6.length ≤ 140737488351232) := by
  obtain ⟨ys, n, _, hyy, hlen, hyl, hf⟩ := DataW.trod_struct under93 h
  rw [cells93] at hlen
  match cs, hlen with
  | [v0, v1, v2, v3, v4, v5, v6], _ =>
    have hy : ∀ i, i < 7 → ∃ y, ys[i]? = some y := fun i hi => ⟨_, List.getElem?_eq_getElem (by rw [hyl]; exact hi)⟩
    obtain ⟨y0, e0⟩ := hy 0 (by decide)
    obtain ⟨y1, e1⟩ := hy 1 (by decide)
    obtain ⟨y2, e2⟩ := hy 2 (by decide)
    obtain ⟨y3, e3⟩ := hy 3 (by decide)
    obtain ⟨y4, e4⟩ := hy 4 (by decide)
    obtain ⟨y5, e5⟩ := hy 5 (by decide)
    obtain ⟨y6, e6⟩ := hy 6 (by decide)
    have t0 : DataW.trod enc Try.prog w 0 sp held n 22 [v0] = some y0 := (hf 0 _ rfl).trans e0
    have t1 : DataW.trod enc Try.prog w 0 sp held n 31 [v1] = some y1 := (hf 1 _ rfl).trans e1
    have t2 : DataW.trod enc Try.prog w 0 sp held n 31 [v2] = some y2 := (hf 2 _ rfl).trans e2
    have t3 : DataW.trod enc Try.prog w 0 sp held n 4 [v3] = some y3 := (hf 3 _ rfl).trans e3
    have t4 : DataW.trod enc Try.prog w 0 sp held n 4 [v4] = some y4 := (hf 4 _ rfl).trans e4
    have t5 : DataW.trod enc Try.prog w 0 sp held n 4 [v5] = some y5 := (hf 5 _ rfl).trans e5
    have t6 : DataW.trod enc Try.prog w 0 sp held n 75 [v6] = some y6 := (hf 6 _ rfl).trans e6
    obtain ⟨x0, q0, _, w0⟩ := DataW.trod_int Try.underlying22 t0
    obtain ⟨x1, q1, _, w1⟩ := DataW.trod_int Try.underlying31 t1
    obtain ⟨x2, q2, _, w2⟩ := DataW.trod_int Try.underlying31 t2
    obtain ⟨b3, q3, _⟩ := DataW.trod_bool Try.underlying4 t3
    obtain ⟨b4, q4, _⟩ := DataW.trod_bool Try.underlying4 t4
    obtain ⟨b5, q5, _⟩ := DataW.trod_bool Try.underlying4 t5
    obtain ⟨a6, l6, c6, q6⟩ := slice_form Try.underlying75 t6
    simp only [List.cons.injEq, and_true] at q0 q1 q2 q3 q4 q5 q6
    subst q0 q1 q2 q3 q4 q5 q6
    obtain ⟨xs, hx, hc, hr, hm⟩ := row8_of t6
    subst hx
    have := bounds_u32 w0
    exact ⟨⟨x0, x1, x2, b3, b4, b5, xs⟩, k93_mk w ⟨x0, x1, x2, b3, b4, b5, xs⟩ hc hr, this.1, by have := this.2; dsimp only; omega, fun hw => hm fun k hk => hw k (by
      rw [hyy]
      rw [show DataW.weights Try.prog 93 (DataW.agg (ys.map (·.1))) = DataW.weightsEach Try.prog (fs93.toList.map fun x : Field => x.type) (ys.map (·.1)) by simp only [DataW.weights, under93]]
      exact DataW.weights_mem_each (j := 6) (t := 75) (d := y6.1) fs93_6 (by rw [List.getElem?_map, e6]; rfl) k hk)⟩
/-- Pieces. -/
theorem row93_of {w : World} {H : Type} {enc : TypeId × Value → H} {held : Bool} {fuel : Nat} {a : Option Addr} {len cap : Nat} {y : DataW H × List MemPlace} {sp : Nat → Bool}
    (h : DataW.trod enc Try.prog w 0 sp held fuel 80 [.slice a len cap] = some y) : ∃ xs : List S93, xs.length = len ∧ len ≤ cap ∧ Kd.C k93 w a xs.length xs ∧ (∀ p ∈ xs, 0 ≤ p.f0 ∧ p.f0 < 4294967296) ∧ ((∀ n ∈ y.1.weights Try.prog 80, n ≤ 140737488351232) → ∀ p ∈ xs, p.f6.length ≤ 140737488351232) := by
  rcases Deep.open_slice Try.underlying80 h with ⟨hcs, hx⟩ | ⟨a', len', cap', m, n, D, Pl, hcs, _, hl, hm, hmm, hx, hi⟩
  · simp at hcs
    obtain ⟨rfl, rfl, rfl⟩ := hcs
    exact ⟨[], rfl, Nat.le_refl _, ⟨rfl, by decide, fun h => absurd h (by decide)⟩, fun p hp => by simp at hp, fun _ p hp => by simp at hp⟩
  · simp at hcs
    obtain ⟨rfl, rfl, rfl⟩ := hcs
    have hlm : len ≤ m := by rw [hmm]; split <;> omega
    rw [cells93] at hi
    obtain ⟨xs, hxl, hxs⟩ := exists_list (P := fun i p => ∃ cs, k93.K w p cs ∧ (∀ j u, cs[j]? = some u → w.cell? (a'.add (i * 7 + j)) = some u) ∧ 0 ≤ p.f0 ∧ p.f0 < 4294967296 ∧ ((∀ n ∈ (D i).weights Try.prog 93, n ≤ 140737488351232) → p.f6.length ≤ 140737488351232)) len (by
      intro i hil
      obtain ⟨cs, hc, ht⟩ := hi i (by omega)
      obtain ⟨p, hK, h1, h2, h3⟩ := piece_of ht
      obtain ⟨_, hcl, hat⟩ := World.cells?_some hc
      refine ⟨p, cs, hK, fun j u hj => ?_, h1, h2, h3⟩
      have hj7 : j < 7 := by rw [← hcl]; exact (List.getElem?_eq_some_iff.1 hj).1
      rw [← Deep.add_add, hat j hj7, hj])
    unfold maxLen at hm
    refine ⟨xs, hxl, hl, ⟨rfl, by omega, fun h0 => ⟨a', rfl, fun j p hj => ?_⟩⟩, fun p hp => ?_, fun hw p hp => ?_⟩
    · obtain ⟨hjl, rfl⟩ := List.getElem?_eq_some_iff.1 hj
      obtain ⟨cs, hK, hc, _⟩ := hxs j hjl
      exact ⟨cs, k93.K_len hK, hK, fun i u hu => hc i u hu⟩
    · obtain ⟨j, hj, rfl⟩ := List.mem_iff_getElem.1 hp
      obtain ⟨cs, hK, hc, h1, h2, h3⟩ := hxs j hj
      exact ⟨h1, h2⟩
    · obtain ⟨j, hj, rfl⟩ := List.mem_iff_getElem.1 hp
      obtain ⟨cs, hK, hc, h1, h2, h3⟩ := hxs j hj
      refine h3 fun k hk => hw k ?_
      rw [hx]
      simp only [DataW.weights, Try.underlying80]
      refine List.mem_cons_of_mem _ (List.mem_append_left _ (weights_all 93 _ _ (List.mem_map.2 ⟨j, List.mem_range.2 (by omega), rfl⟩) k hk))
end Go.Proofs.Ytnlhlffciigcnaa.QFrag
