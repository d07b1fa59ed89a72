import Derived.Test.YtidbkkebkgeioaaGreatTmL
import Derived.Deep.Slices
import Derived.Deep.Fields
import Derived.ChangeSame
import Derived.ChangeOld
import Derived.SizedLaws
import Derived.Lib.SmallJoins
namespace Go.Proofs.YtidbkkebkgeioaaGreat.TmR
open Go.ChangeShapes Go.WideShapes Go.ChangeAt Go.RowKit Go.Shelf Go.Joins MK
open Base (hid cell_new1 cell_old1 froz_new1 froz_old1)
open TmA (I64 lt_of_cell)
set_option linter.unusedVariables false
set_option maxRecDepth 100000
/-- An act: a kind, two numbers. -/
structure Act where
  f0 : Int
  f1 : Int
  f2 : Int
/-- A script, as it lies in memory. -/
def Row (w : World) (a : Option Addr) (l : List Act) : Prop := ∀ i (h : i < l.length), ∃ ad, a = some ad ∧ w.cell? (ad.add (i * 3)) = some (.int .i64 l[i].f0) ∧ w.cell? ⟨(ad.add (i * 3)).block, (ad.add (i * 3)).off + 1, none⟩ = some (.int .i64 l[i].f1) ∧ w.cell? ⟨(ad.add (i * 3)).block, (ad.add (i * 3)).off + 2, none⟩ = some (.int .i64 l[i].f2)
theorem Row.below {w w' : World} {a : Option Addr} {l : List Act} (h : Row w a l) (hb : Below w.heap.size w w') : Row w' a l := by
  intro i hi
  obtain ⟨ad, e, h0, h1, h2⟩ := h i hi
  refine ⟨ad, e, ?_, ?_, ?_⟩
  · exact (hb.cell (p := ad.add (i * 3)) (lt_of_cell h1)).trans h0
  · exact (hb.cell (p := ⟨(ad.add (i * 3)).block, (ad.add (i * 3)).off + 1, none⟩) (lt_of_cell h1)).trans h1
  · exact (hb.cell (p := ⟨(ad.add (i * 3)).block, (ad.add (i * 3)).off + 2, none⟩) (lt_of_cell h2)).trans h2
theorem cells57 : Tryz.prog.cellsOf 57 = 3 := by kernel_rfl
noncomputable def fs44 : Array Field := match Tryz.prog.underlying 57 with | some (.struct fs) => fs | _ => #[]
theorem under44 : Tryz.prog.underlying 57 = some (.struct fs44) := by kernel_rfl
theorem exists_list {α : Type} {P : Nat → α → Prop} : ∀ n : Nat, (∀ i, i < n → ∃ p, P i p) → ∃ xs : List α, xs.length = n ∧ ∀ i (h : i < xs.length), P i xs[i] := by
  intro n
  induction n with
  | zero => exact fun _ => ⟨[], rfl, fun i h => by simp at h⟩
  | succ n ih =>
    intro h
    obtain ⟨xs, hl, hx⟩ := ih fun i hi => h i (by omega)
    obtain ⟨p, hp⟩ := h n (by omega)
    refine ⟨xs ++ [p], by rw [List.length_append, List.length_singleton, hl], fun i hi => ?_⟩
    rw [List.length_append, List.length_singleton, hl] at hi
    rcases Nat.lt_or_ge i n with h1 | h1
    · rw [List.getElem_append_left (by rw [hl]; exact h1)]
      exact hx i (by rw [hl]; exact h1)
    · obtain rfl : i = n := by omega
      rw [List.getElem_append_right (by rw [hl]; exact Nat.le_refl _)]
      simpa [hl] using hp
theorem act_of {w : World} {H : Type} {enc : TypeId × Value → H} {held : Bool} {fuel : Nat} {cs : List Value} {y : DataW H × List MemPlace} {sp : Nat → Bool}
    (h : DataW.trod enc Tryz.prog w 0 sp held fuel 57 cs = some y) : ∃ p : Act, cs = [.int .i64 p.f0, .int .i64 p.f1, .int .i64 p.f2] ∧ I64 p.f0 ∧ I64 p.f1 ∧ I64 p.f2 := by
  obtain ⟨ys, n, _, hyy, hlen, hyl, hf⟩ := DataW.trod_struct under44 h
  rw [cells57] at hlen
  match cs, hlen with
  | [v0, v1, v2], _ =>
    have hy : ∀ i, i < 3 → ∃ y, ys[i]? = some y := fun i hi => ⟨_, List.getElem?_eq_getElem (by rw [hyl]; exact hi)⟩
    obtain ⟨y0, e0⟩ := hy 0 (by decide)
    obtain ⟨y1, e1⟩ := hy 1 (by decide)
    obtain ⟨y2, e2⟩ := hy 2 (by decide)
    have t0 : DataW.trod enc Tryz.prog w 0 sp held n 3 [v0] = some y0 := (hf 0 _ rfl).trans e0
    have t1 : DataW.trod enc Tryz.prog w 0 sp held n 3 [v1] = some y1 := (hf 1 _ rfl).trans e1
    have t2 : DataW.trod enc Tryz.prog w 0 sp held n 3 [v2] = some y2 := (hf 2 _ rfl).trans e2
    obtain ⟨x0, q0, _, w0⟩ := DataW.trod_int Tryz.underlying3 t0
    obtain ⟨x1, q1, _, w1⟩ := DataW.trod_int Tryz.underlying3 t1
    obtain ⟨x2, q2, _, w2⟩ := DataW.trod_int Tryz.underlying3 t2
    simp only [List.cons.injEq, and_true] at q0 q1 q2
    subst q0 q1 q2
    exact ⟨⟨x0, x1, x2⟩, rfl, w0, w1, w2⟩
theorem row_of {w : World} {H : Type} {enc : TypeId × Value → H} {held : Bool} {fuel : Nat} {a : Option Addr} {len cap : Nat} {y : DataW H × List MemPlace} {sp : Nat → Bool}
    (h : DataW.trod enc Tryz.prog w 0 sp held fuel 22 [.slice a len cap] = some y) : ∃ xs : List Act, xs.length = len ∧ len ≤ cap ∧ Row w a xs ∧ ∀ p ∈ xs, I64 p.f1 ∧ I64 p.f2 := by
  rcases Deep.open_slice Tryz.underlying22 h with ⟨hcs, hx⟩ | ⟨a', len', cap', m, n, D, Pl, hcs, _, hl, hm, hmm, hx, hi⟩
  · simp at hcs
    obtain ⟨rfl, rfl, rfl⟩ := hcs
    exact ⟨[], rfl, Nat.le_refl _, (fun i h => by simp at h), fun p hp => by simp at hp⟩
  · simp at hcs
    obtain ⟨rfl, rfl, rfl⟩ := hcs
    have hlm : len ≤ m := by rw [hmm]; split <;> omega
    rw [cells57] at hi
    obtain ⟨xs, hxl, hxs⟩ := exists_list (P := fun i (p : Act) => (w.cell? (a'.add (i * 3)) = some (.int .i64 p.f0) ∧ w.cell? ⟨(a'.add (i * 3)).block, (a'.add (i * 3)).off + 1, none⟩ = some (.int .i64 p.f1) ∧ w.cell? ⟨(a'.add (i * 3)).block, (a'.add (i * 3)).off + 2, none⟩ = some (.int .i64 p.f2)) ∧ I64 p.f1 ∧ I64 p.f2) len (by
      intro i hil
      obtain ⟨cs, hc, ht⟩ := hi i (by omega)
      obtain ⟨p, rfl, w0, w1, w2⟩ := act_of ht
      obtain ⟨_, hcl, hat⟩ := World.cells?_some hc
      have a0 := hat 0 (by decide)
      have a1 := hat 1 (by decide)
      have a2 := hat 2 (by decide)
      refine ⟨p, ⟨?_, ?_, ?_⟩, w1, w2⟩
      · have e : (a'.add (i * 3)).add 0 = a'.add (i * 3) := by unfold Addr.add; simp
        rw [← e]
        exact a0
      · exact a1
      · exact a2)
    refine ⟨xs, hxl, hl, fun i h => ⟨a', rfl, (hxs i h).1⟩, fun p hp => ?_⟩
    obtain ⟨j, hj, rfl⟩ := List.mem_iff_getElem.1 hp
    exact (hxs j hj).2
end Go.Proofs.YtidbkkebkgeioaaGreat.TmR
