import Derived.Test.YtidbkkebkgeioaaSi
namespace Go.Proofs.Ytidbkkebkgeioaa.Sl
open Go.ChangeShapes Go.WideShapes Go.ChangeAt Go.RowKit Go.Shelf Go.Sort
open Base (hid cell_new1 cell_old1 froz_new1 froz_old1)
open TmA (own_some)
open It (runs seqR FW)
attribute [local go_sem] Oper.semAt_some
set_option linter.unusedVariables false
set_option linter.unusedSimpArgs false
/-- One list that a range's body makes: its cell, its row. -/
structure RL (g h : Nat) (W : World) (B : Nat) (xs : List Int) (v : Value) : Prop where
  c : W.cell? ⟨h, 0, none⟩ = some v
  fr : W.frozen? ⟨h, 0, none⟩ = false
  own : W.ownsRow g 3 1 v xs.length (xs.map (.int .i64))
  blk : ∀ q, v.ownBlock = some q → q = g ∨ B ≤ q
theorem RL.grown {g h B : Nat} {W W' : World} {xs : List Int} {v : Value} {row : Option Nat} (hr : RL g h W B xs v) (hg : W.grownBy W' row) (hne : ∀ r, row = some r → r ≠ h ∧ v.ownBlock ≠ some r) : RL g h W' B xs v :=
  ⟨hg.cell (a := ⟨h, 0, none⟩) hr.c (fun e => (hne h e.symm).1 rfl), (World.frozen?_of_block (w := W) (hg.block h (TmA.lt_of_cell hr.c) (fun e => (hne h e.symm).1 rfl))).trans hr.fr, hr.own.kept hg (by
    rcases hb : v.ownBlock with _ | q
    · exact .inl rfl
    · exact .inr fun e => (hne q e.symm).2 hb), hr.blk⟩
theorem RL.other {g h B : Nat} {W W' : World} {xs : List Int} {v : Value} {row : Option Nat} (hr : RL g h W B xs v) (hg : W.grownBy W' row) (hno : ∀ r, row = some r → ∃ o : Obj, W.heap[r]? = some o ∧ o.isCells = false) : RL g h W' B xs v :=
  hr.grown hg fun r e => by
    obtain ⟨o, ho, hc⟩ := hno r e
    constructor
    · rintro rfl
      have := hr.c
      cases o <;> simp [World.cell?, ho] at this <;> simp [Obj.isCells] at hc
    · intro hb
      rcases hr.own.2 with ⟨rfl, _⟩ | ⟨q, cap, cur, rfl, _, hq, _⟩
      · simp [Value.ownBlock] at hb
      · simp [Value.ownBlock] at hb
        subst hb
        rw [hq] at ho
        cases ho
        simp [Obj.isCells] at hc
/-- How the first range stands. -/
def RJ (g : Nat) (w6 : World) (pre : List (Int × Nat)) (W : World) : Prop :=
  (∃ v v', RL g (g + 2) W w6.heap.size (pre.map fun x => IntKind.i64.wrap x.1) v ∧ RL (g + 1) (g + 3) W w6.heap.size (pre.map fun x => (x.2 : Int)) v' ∧ Apart v v') ∧
  (w6.heap.size ≤ W.heap.size ∧ W.os = w6.os ∧ W.tape = w6.tape ∧ W.output = w6.output ∧ ∀ k, k < w6.heap.size → k < g ∨ g + 4 ≤ k → W.heap[k]? = w6.heap[k]?)
theorem ri_own (g : Nat) (w6 : World) : OwnFrom w6.heap.size (RJ g w6) := by
  rintro pre W W' row ⟨⟨v, v', h1, h2, h3⟩, h4, h5, h6, h7, h8⟩ hg hr
  refine ⟨⟨v, v', h1.other hg (fun r e => (hr r e).2), h2.other hg (fun r e => (hr r e).2), h3⟩, Nat.le_trans h4 hg.size, hg.os.trans h5, hg.tape.trans h6, hg.output.trans h7, fun k hk hk2 => ?_⟩
  rw [hg.block k (by omega) (fun e => by have := (hr k e.symm).1; omega)]
  exact h8 k hk hk2
end Go.Proofs.Ytidbkkebkgeioaa.Sl
