import Derived.Test.YtidbkkebkgeioaaSf
namespace Go.Proofs.Ytidbkkebkgeioaa.Sl
open Go.ChangeShapes Go.WideShapes Go.ChangeAt Go.RowKit Go.Shelf Go.Sort
open Base (hid cell_new1 cell_old1 froz_new1 froz_old1)
open TmA (own_some)
open It (runs)
attribute [local go_sem] Oper.semAt_some
set_option linter.unusedVariables false
set_option linter.unusedSimpArgs false
set_option maxRecDepth 100000
/-- Two rows that share no block. -/
def Apart (v v' : Value) : Prop := ∀ k, v.ownBlock = some k → v'.ownBlock ≠ some k
theorem Apart.symm {v v' : Value} (h : Apart v v') : Apart v' v := fun k h1 h2 => h k h2 h1
theorem apart_row {v v' : Value} (h : Apart v v') : v'.ownBlock = none ∨ v'.ownBlock ≠ v.ownBlock := by
  rcases h' : v'.ownBlock with _ | k
  · exact .inl rfl
  · exact .inr fun e => h k e.symm h'
theorem apart_app {w : World} {B : Nat} {e : TypeId} {s : Nat} {v v2 v' : Value} {n : Nat} {xs : List Value} (h : Apart v v') (hat : v2.ownBlock = v.ownBlock ∨ v2.ownBlock = some (w.heap.size + 1)) (ho : w.ownsRow B e s v' n xs) : Apart v2 v' := by
  intro k h1 h2
  rcases hat with e' | e'
  · exact h k (e' ▸ h1) h2
  · have := (own_base ho h2).2
    rw [e'] at h1
    cases h1
    omega
theorem own_set {w : World} {B g n c k : Nat} {xs : List Int} (h : w.ownsRow B 3 1 (.slice (some ⟨g, 0, none⟩) n c) n (xs.map (.int .i64))) (hk : k < n) (hn : n = xs.length) (v : Int) :
    (w.setCell ⟨g, k, none⟩ (.int .i64 v)).ownsRow B 3 1 (.slice (some ⟨g, 0, none⟩) n c) n ((xs.set k v).map (.int .i64)) := by
  rcases h.2 with ⟨e, _⟩ | ⟨g', cap, cur, e, hb, hg, r1, r2, r3, r4⟩
  · cases e
  · cases e
    refine ⟨by simp [hn], .inr ⟨g, c, cur.setIfInBounds k (.int .i64 v), rfl, hb, ?_, r1, r2, by simpa using r3, ?_⟩⟩
    · simp only [World.setCell, Array.getElem?_modify, if_pos, hg, Option.map_some]
      rfl
    · have e1 : (cur.setIfInBounds k (.int .i64 v)).toList = cur.toList.set k (.int .i64 v) := by simp
      rw [e1, List.take_set, r4, List.map_set]
end Go.Proofs.Ytidbkkebkgeioaa.Sl
