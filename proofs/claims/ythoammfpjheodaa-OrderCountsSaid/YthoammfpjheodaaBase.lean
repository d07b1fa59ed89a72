/- Rows of cells that were there or were made, as this claim's walks carry them. -/
import Derived.Test.YthoammfpjheodaaProg
import Derived.WalkKit
import Derived.ProofKit
import Derived.OpenShut
import Derived.OwnWalk
import Derived.Below
import Derived.WalkSmall
import Derived.Maps.AppendAt
import Derived.WalkSpells
import Derived.Deep.QuietTactic
import Derived.BigQuiet
import Derived.LoopTactic
namespace Go.Proofs.Ythoammfpjheodaa.Base
open Go.ChangeShapes Go.WideShapes Go.ChangeAt Go.RowKit
theorem hid {p : Prop} (h : p) : Hid p := h
theorem ret_int {k : IntKind} {a b : Int} (h : a = b) : Ending.returned (.int k a) = .returned (.int k b) := by rw [h]
theorem ret_bool {a b : Bool} (h : a = b) : Ending.returned (.bool a) = .returned (.bool b) := by rw [h]
theorem lt_of_cell {w : World} {b o : Nat} {v : Value} (h : w.cell? ⟨b, o, none⟩ = some v) : b < w.heap.size := by
  by_cases hb : b < w.heap.size
  · exact hb
  · exfalso
    simp [World.cell?, Array.getElem?_eq_none (show w.heap.size ≤ b by omega)] at h
/-- The cells that lie behind a, in a block from lo on and below hi. -/
def RowV (lo hi : Nat) (w : World) (a : Option Addr) (cs : List Value) : Prop := cs = [] ∨ ∃ b o, a = some ⟨b, o, none⟩ ∧ lo ≤ b ∧ b < hi ∧ ∀ j, j < cs.length → w.cell? ⟨b, o + j, none⟩ = cs[j]?
theorem RowV.later {lo hi : Nat} {w w' : World} {a : Option Addr} {cs : List Value} (h : RowV lo hi w a cs) (hb : Below hi w w') : RowV lo hi w' a cs :=
  h.imp id fun ⟨b, o, h1, h2, h3, h4⟩ => ⟨b, o, h1, h2, h3, fun j hj => (hb.cell (p := ⟨b, o + j, none⟩) h3).trans (h4 j hj)⟩
theorem RowV.grown {lo hi : Nat} {w w' : World} {a : Option Addr} {cs : List Value} {row : Option Nat} (h : RowV lo hi w a cs) (hg : w.grownBy w' row) (hs : hi ≤ w.heap.size) (hr : ∀ b, row = some b → b < lo ∨ hi ≤ b) : RowV lo hi w' a cs :=
  h.imp id fun ⟨b, o, h1, h2, h3, h4⟩ => ⟨b, o, h1, h2, h3, fun j hj => (World.cell?_of_block (w := w) (hg.block b (by omega) (fun e => by have := hr b e.symm; omega))).trans (h4 j hj)⟩
theorem RowV.mono {lo hi lo' hi' : Nat} {w : World} {a : Option Addr} {cs : List Value} (h : RowV lo hi w a cs) (h1 : lo' ≤ lo) (h2 : hi ≤ hi') : RowV lo' hi' w a cs :=
  h.imp id fun ⟨b, o, k1, k2, k3, k4⟩ => ⟨b, o, k1, by omega, by omega, k4⟩
theorem RowV.of {w : World} {base size : Nat} {e : TypeId} {a : Option Addr} {n m c : Nat} {cs : List Value} (h : w.ownsRow base e size (.slice a n c) m cs) : RowV base w.heap.size w a cs := by
  have hl := h.lt
  rcases h with ⟨h0, ⟨he, h⟩ | ⟨g, cap', cur, he, hr⟩⟩
  · subst h
    left
    have : cs.length = 0 := by rw [h0]; exact Nat.zero_mul _
    exact List.eq_nil_of_length_eq_zero this
  · right
    simp only [Value.slice.injEq] at he
    obtain ⟨rfl, rfl, rfl⟩ := he
    refine ⟨g, 0, rfl, (hl g rfl).1, (hl g rfl).2, fun j hj => ?_⟩
    have := World.ownsRow.cells (w := w) (base := base) (e := e) (size := size) ⟨h0, .inr ⟨g, c, cur, rfl, hr⟩⟩ (g := g) rfl j cs[j] (by simp [hj])
    rw [add_plain] at this
    rw [this]; simp [hj]
theorem slice_of_row {w : World} {base size : Nat} {e : TypeId} {v : Value} {n : Nat} {xs : List Value} (h : w.ownsRow base e size v n xs) : ∃ a c, v = .slice a n c ∧ n ≤ c := by
  rcases h with ⟨hl, ⟨rfl, h⟩ | ⟨g, cap', cur, rfl, _, _, hc, _⟩⟩
  · subst h
    exact ⟨_, _, rfl, Nat.le_refl _⟩
  · exact ⟨_, _, rfl, hc⟩
theorem ownsRow_later {w w' : World} {base : Nat} {e : TypeId} {size : Nat} {v : Value} {n : Nat} {xs : List Value} (h : w.ownsRow base e size v n xs) (hb : Below w.heap.size w w') : w'.ownsRow base e size v n xs := by
  have hl := h.lt
  obtain ⟨h0, h1⟩ := h
  refine ⟨h0, h1.imp id ?_⟩
  rintro ⟨g, cap', cur, rfl, k1, k2, k3⟩
  exact ⟨g, cap', cur, rfl, k1, (hb.block g (hl g rfl).2).trans k2, k3⟩
theorem ownsRow_base {w : World} {base base' : Nat} {e : TypeId} {size : Nat} {v : Value} {n : Nat} {xs : List Value} (h : w.ownsRow base e size v n xs) (hb : base' ≤ base) : w.ownsRow base' e size v n xs := by
  obtain ⟨h0, h1⟩ := h
  refine ⟨h0, h1.imp id ?_⟩
  rintro ⟨g, cap', cur, rfl, k1, k2⟩
  exact ⟨g, cap', cur, rfl, by omega, k2⟩
/-- A row's news, as the append law asks them. -/
theorem RowV.news {w : World} {b o : Nat} {cs : List Value} (h : ∀ j, j < cs.length → w.cell? ⟨b, o + j, none⟩ = cs[j]?) : ∀ j u, cs[j]? = some u → w.cell? ((⟨b, o, none⟩ : Addr).add j) = some u := by
  intro j u hu
  rw [add_plain, h j (by have := (List.getElem?_eq_some_iff.1 hu).1; exact this), hu]
theorem take_snocV {α : Type} (l : List α) (d : α) (k : Nat) (h : k < l.length) : l.take (k + 1) = l.take k ++ [l[k]?.getD d] := by
  rw [List.take_succ_eq_append_getElem h]; simp [h]
theorem drop_atV {α : Type} (l : List α) (d : α) (k : Nat) (h : k < l.length) : l.drop k = l[k]?.getD d :: l.drop (k + 1) := by
  rw [List.drop_eq_getElem_cons h]; simp [h]
theorem cell_map {α : Type} {w : World} {b o : Nat} {f : α → Value} {xs : List α} (d : α) (h : ∀ j, j < (xs.map f).length → w.cell? ⟨b, o + j, none⟩ = (xs.map f)[j]?) (k : Nat) (hk : k < xs.length) : w.cell? ⟨b, o + k, none⟩ = some (f (xs[k]?.getD d)) := by
  rw [h k (by simpa using hk)]; simp [hk]
theorem cell_new1 (w : World) (cs : Array Value) (t : TypeId) (b : Nat) (h : b = w.heap.size) (j : Nat) : (w.alloc (.cells cs t)).cell? ⟨b, j, none⟩ = cs[j]? := by
  subst h
  rw [World.cell?_alloc_at _ _ _ _ rfl]
theorem cell_old1 (w : World) (o : Obj) (b : Nat) (h : b < w.heap.size) (j : Nat) : (w.alloc o).cell? ⟨b, j, none⟩ = w.cell? ⟨b, j, none⟩ := World.cell?_alloc_past _ _ _ h
theorem froz_new1 (w : World) (cs : Array Value) (t : TypeId) (b : Nat) (h : b = w.heap.size) (j : Nat) : (w.alloc (.cells cs t)).frozen? ⟨b, j, none⟩ = false := by
  subst h
  exact World.frozen?_alloc_at _ _ _ _ rfl
theorem froz_old1 (w : World) (o : Obj) (b : Nat) (h : b < w.heap.size) (j : Nat) : (w.alloc o).frozen? ⟨b, j, none⟩ = w.frozen? ⟨b, j, none⟩ := World.frozen?_alloc_past _ _ _ h
end Go.Proofs.Ythoammfpjheodaa.Base
