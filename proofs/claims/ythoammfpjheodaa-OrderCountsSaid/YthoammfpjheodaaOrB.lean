import Derived.Test.YthoammfpjheodaaOrA
import Derived.Deep.AppendLies
import Derived.Deep.RegionHeld3
namespace Go.Proofs.Ythoammfpjheodaa.Or
open Go.ChangeShapes Go.WideShapes Go.ChangeAt Go.RowKit Go.Shelf MK
open Base (hid cell_new1 cell_old1 froz_new1 froz_old1)
open Rz (below_alloc lt_of_cell add_block Txt box_at box_new box_old setCells_grown grown_setAt own_low own_base txt_row nil_row clone_calls)
attribute [local go_sem] Oper.semAt_some
set_option linter.unusedVariables false
set_option linter.unusedSimpArgs false
set_option maxRecDepth 100000
/-! a desk in memory -/
def cellsM (l : List Mg) : List Value := l.flatMap Mg.cells
theorem cellsM_len : ∀ (l : List Mg), (cellsM l).length = l.length * 3
  | [] => rfl
  | p :: l => by
    have ih := cellsM_len l
    unfold cellsM at *
    simp only [List.flatMap_cons, List.length_append, ih, List.length_cons, Mg.cells, List.length_nil]
    omega
theorem cellsM_app (l r : List Mg) : cellsM (l ++ r) = cellsM l ++ cellsM r := by unfold cellsM; rw [List.flatMap_append]
theorem cellsM_one : ∀ (l : List Mg), ∀ u ∈ cellsM l, u.oneCell' = true := by
  intro l u hu
  obtain ⟨p, _, hu⟩ := List.mem_flatMap.1 hu
  simp only [Mg.cells, List.mem_cons, List.not_mem_nil, or_false] at hu
  rcases hu with rfl | rfl | rfl <;> rfl
theorem cellsM_get : ∀ (l : List Mg) (i k : Nat) (hi : i < l.length) (hk : k < 3), (cellsM l)[i * 3 + k]? = some (l[i].cells[k]'hk)
  | [], i, k, hi, hk => by simp at hi
  | p :: l, 0, k, hi, hk => by
    have e : cellsM (p :: l) = p.cells ++ cellsM l := by unfold cellsM; rw [List.flatMap_cons]
    rw [e, Nat.zero_mul, Nat.zero_add, List.getElem?_append_left (by exact hk)]
    exact List.getElem?_eq_getElem _
  | p :: l, i + 1, k, hi, hk => by
    have e : cellsM (p :: l) = p.cells ++ cellsM l := by unfold cellsM; rw [List.flatMap_cons]
    have hl : p.cells.length = 3 := rfl
    rw [e, List.getElem?_append_right (by rw [hl]; omega), hl, show (i + 1) * 3 + k - 3 = i * 3 + k by omega, cellsM_get l i k (by simpa using hi) hk]
    rfl
def zM : Value := .agg #[.int .i64 0, .bool false, .slice none 0 0]
theorem info34 : (Try.prog.info? 34).map (fun i => (i.zero, i.size, i.bytes)) = some (some zM, 3, 40) := by kernel_rfl
theorem add_at (g o i : Nat) : (⟨g, o, none⟩ : Addr).add i = ⟨g, o + i, none⟩ := by
  unfold Addr.add
  split <;> simp_all
/-- A row of messages, from some place of a block on. -/
def RO (w : World) (A : Option Addr) (c : Nat) (l : List Mg) : Prop :=
  (A = none ∧ l = [] ∧ c = 0) ∨ ∃ g off, A = some ⟨g, off, none⟩ ∧ (∃ cur : Array Value, w.heap[g]? = some (.cells cur 34 (0, 0)) ∧ off + c * 3 ≤ cur.size) ∧ l.length ≤ c ∧ ∀ j u, (cellsM l)[j]? = some u → w.cell? ⟨g, off + j, none⟩ = some u
theorem RO.len {w : World} {A : Option Addr} {c : Nat} {l : List Mg} (h : RO w A c l) : l.length ≤ c := by
  rcases h with ⟨_, rfl, rfl⟩ | ⟨g, off, _, _, h, _⟩
  · exact Nat.le_refl _
  · exact h
theorem RO.lt {w : World} {A : Option Addr} {c : Nat} {l : List Mg} (h : RO w A c l) : ∀ a, A = some a → a.block < w.heap.size := by
  rintro a rfl
  rcases h with ⟨h, _⟩ | ⟨g, off, h, ⟨cur, hg, _⟩, _⟩
  · cases h
  · cases h
    exact (Array.getElem?_eq_some_iff.1 hg).1
theorem RO.block {w w' : World} {A : Option Addr} {c : Nat} {l : List Mg} (h : RO w A c l) (hb : ∀ a, A = some a → w'.heap[a.block]? = w.heap[a.block]?) : RO w' A c l := by
  rcases h with ⟨h1, h2⟩ | ⟨g, off, rfl, ⟨cur, hg, hs⟩, hl, hc⟩
  · exact .inl ⟨h1, h2⟩
  · have hb := hb _ rfl
    exact .inr ⟨g, off, rfl, ⟨cur, hb.trans hg, hs⟩, hl, fun j u hj => (World.cell?_of_block (w := w) (a := ⟨g, off + j, none⟩) hb).trans (hc j u hj)⟩
theorem RO.below {w w' : World} {A : Option Addr} {c : Nat} {l : List Mg} (h : RO w A c l) (hb : Below w.heap.size w w') : RO w' A c l := h.block fun a e => hb.block _ (h.lt a e)
theorem RO.nil (w : World) : RO w none 0 [] := .inl ⟨rfl, rfl, rfl⟩
theorem RO.of_own {w : World} {B n c : Nat} {A : Option Addr} {l : List Mg} (h : w.ownsRow B 34 3 (.slice A n c) n (cellsM l)) (hn : n = l.length) : RO w A c l := by
  subst hn
  rcases h.2 with ⟨e, h0⟩ | ⟨g, cap, cur, e, hb, hg, h1, h2, h3, h4⟩
  · simp only [Value.slice.injEq] at e
    exact .inl ⟨e.1, List.length_eq_zero_iff.1 h0, e.2.2⟩
  · simp only [Value.slice.injEq] at e
    obtain ⟨rfl, _, rfl⟩ := e
    refine .inr ⟨g, 0, rfl, ⟨cur, hg, by omega⟩, h1, fun j u hj => ?_⟩
    have := World.ownsRow.cells (w := w) h (g := g) rfl j u hj
    rw [add_at] at this
    exact this
theorem RO.at {w : World} {A : Option Addr} {c : Nat} {l : List Mg} (h : RO w A c l) (i : Nat) (hi : i < l.length) : ∃ g off, A = some ⟨g, off, none⟩ ∧ g < w.heap.size ∧
    w.cell? ⟨g, off + i * 3, none⟩ = some (.int .i64 l[i].s) ∧ w.cell? ⟨g, off + i * 3 + 1, none⟩ = some (.bool l[i].u) ∧ w.cell? ⟨g, off + i * 3 + 2, none⟩ = some (.slice l[i].A l[i].x.length l[i].c) := by
  rcases h with ⟨_, rfl, _⟩ | ⟨g, off, rfl, ⟨cur, hg, hs⟩, hl, hc⟩
  · simp at hi
  · refine ⟨g, off, rfl, (Array.getElem?_eq_some_iff.1 hg).1, ?_, ?_, ?_⟩
    · exact hc _ _ (cellsM_get l i 0 hi (by decide))
    · rw [Nat.add_assoc]; exact hc _ _ (cellsM_get l i 1 hi (by decide))
    · rw [Nat.add_assoc]; exact hc _ _ (cellsM_get l i 2 hi (by decide))
theorem sets_shape (g : Nat) : ∀ (vs : List Value) (o : Nat) {W : World} {e : TypeId} {k : Nat} (h : ∃ cur : Array Value, W.heap[g]? = some (.cells cur e (0, 0)) ∧ k ≤ cur.size), ∃ cur : Array Value, (W.setCells g o vs).heap[g]? = some (.cells cur e (0, 0)) ∧ k ≤ cur.size
  | [], _, _, _, _, h => h
  | v :: vs, o, W, e, k, h => sets_shape g vs (o + 1) (W := W.setCell ⟨g, o, none⟩ v) (by
      obtain ⟨cur, hg, hs⟩ := h
      refine ⟨_, by simp only [World.setCell, Array.getElem?_modify, if_pos, hg, Option.map_some]; rfl, ?_⟩
      simpa using hs)
/-- The block of a slice. -/
def blk (A : Option Addr) : Option Nat := A.map (·.block)
theorem app_run {w : World} {A : Option Addr} {c : Nat} {l : List Mg} (h : RO w A c l) (ty : TypeId) (ad : Addr) (cc : Nat) (m : Mg) (hm : ∀ j u, m.cells[j]? = some u → w.cell? (ad.add j) = some u) (hl : l.length ≤ 1000000) :
    ∃ A' c' w', (Builtin.append_ #[22, 22] ty #[.slice A l.length c, .slice (some ad) 1 cc]).run Try.prog w = .ok (.slice A' (l.length + 1) c') w' ∧ RO w' A' c' (l ++ [m]) ∧ w.grownBy w' (blk A) ∧ (blk A' = blk A ∨ blk A' = some w.heap.size) := by
  obtain ⟨i0, hi, hi0, hi1, hi2⟩ := info_parts info34
  have hml : m.cells.length = 1 * 3 := rfl
  have hm1 : ∀ u ∈ m.cells, u.oneCell' = true := fun u hu => cellsM_one [m] u (by unfold cellsM; simpa using hu)
  have hcm : cellsM (l ++ [m]) = cellsM l ++ m.cells := by rw [cellsM_app]; unfold cellsM; simp
  rcases h with ⟨rfl, rfl, rfl⟩ | ⟨g, off, rfl, ⟨cur, hg, hs⟩, hlc, hc⟩
  · obtain ⟨v', w', hrun, h2, h3, h4⟩ := run_append_own (P := Try.prog) (w := w) w.heap.size 22 ty 34 i0 zM 3 40 Try.underlying22 hi hi0 hi1 hi2 rfl (by decide) (.slice none 0 0) 0 [] (World.ownsRow_nil _ _ _ _) ad 1 cc m.cells hml hm hm1 (by unfold maxLen; omega) (by omega) (Nat.le_refl _)
    obtain ⟨A', c', rfl, _⟩ := Base.slice_of_row h2
    refine ⟨A', c', w', hrun, RO.of_own (by rw [hcm]; exact h2) rfl, h3, ?_⟩
    rcases h2.2 with ⟨e, _⟩ | ⟨g, cap, cur, e, hb, hg, _⟩
    · simp at e
    · simp only [Value.slice.injEq] at e
      obtain ⟨rfl, _, _⟩ := e
      right
      have hgl := (Array.getElem?_eq_some_iff.1 hg).1
      by_cases hgw : g < w.heap.size
      · omega
      · have := run_append_nil (P := Try.prog) w 22 ty 34 i0 zM Try.underlying22 hi hi0 ad 1 cc m.cells (by rw [hi1]; rfl) (hm) (by omega) (by omega) (by rw [hi2]; omega)
        rw [this] at hrun
        injection hrun with h5 h6
        simp only [Value.slice.injEq, Option.some.injEq, Addr.mk.injEq] at h5
        simp [blk, ← h5.1.1]
  · by_cases hr : l.length + 1 ≤ c
    · have hfit : ∀ j, j < 3 → off + l.length * 3 + j < cur.size := fun j hj => by
        have : (l.length + 1) * 3 ≤ c * 3 := Nat.mul_le_mul_right _ hr
        omega
      have hrun := run_append_room_cells (P := Try.prog) w 22 ty 34 i0 Try.underlying22 hi g off l.length c ad 1 cc m.cells (by rw [hi1, hml]) hm hm1 hr (fun j hj => by
        rw [hi1]
        simp only [World.cell?, hg]
        have := hfit j hj
        simp [this]) (fun j hj => by simp [World.frozen?, hg])
      rw [hi1] at hrun
      refine ⟨_, _, _, hrun, .inr ⟨g, off, rfl, sets_shape g _ _ ⟨cur, hg, hs⟩, by simpa using hr, fun j u hj => ?_⟩, setCells_grown g _ _ _, .inl rfl⟩
      rw [hcm] at hj
      by_cases hjl : j < (cellsM l).length
      · rw [List.getElem?_append_left hjl] at hj
        rw [cellsM_len] at hjl
        rw [World.cell?_setCells_out _ _ _ _ _ (fun _ _ => .inl (by show off + j < _; omega))]
        exact hc j u hj
      · rw [List.getElem?_append_right (by omega), cellsM_len] at hj
        rw [cellsM_len] at hjl
        have hj3 : j - l.length * 3 < 3 := (List.getElem?_eq_some_iff.1 hj).1
        have := World.cell?_setCells_in g m.cells (off + l.length * 3) w (fun i hi => by
          simp only [World.cell?, hg]
          have := hfit i hi
          simp [this]) (j - l.length * 3) hj3
        rw [show off + l.length * 3 + (j - l.length * 3) = off + j by omega] at this
        rw [this]
        rw [List.getElem?_eq_getElem hj3] at hj
        exact hj
    · obtain ⟨v', w', hrun, h2, h3⟩ := run_append_arg_grows (P := Try.prog) w 22 ty 34 i0 zM 3 40 Try.underlying22 hi hi0 hi1 hi2 rfl (by decide) ⟨g, off, none⟩ l.length c (cellsM l) (cellsM_len l) (fun j u hj => by rw [add_at]; exact hc j u hj) ad 1 cc m.cells hml hm (by omega) (by unfold maxLen; omega) (by omega)
      obtain ⟨A', c', rfl, _⟩ := Base.slice_of_row h2
      refine ⟨A', c', w', hrun, RO.of_own (by rw [hcm]; exact h2) (by simp), ⟨h3.os, h3.tape, h3.output, h3.size, fun k hk _ => h3.block k hk (by simp)⟩, ?_⟩
      rcases h2.2 with ⟨e, h0⟩ | ⟨g', cap, cur', e, hb, hg', _⟩
      · omega
      · simp only [Value.slice.injEq] at e
        obtain ⟨rfl, _, _⟩ := e
        right
        have := run_append_grow (P := Try.prog) w 22 ty 34 i0 zM Try.underlying22 hi hi0 ⟨g, off, none⟩ l.length c (cellsM l) (by rw [hi1, cellsM_len]) (fun j u hj => by rw [add_at]; exact hc j u hj) ad 1 cc m.cells (by rw [hi1, hml]) hm (by omega) (by omega) (growslice_fits (by omega) (by rw [hi2]; omega))
        rw [this] at hrun
        injection hrun with h5 h6
        simp only [Value.slice.injEq, Option.some.injEq, Addr.mk.injEq] at h5
        simp [blk, ← h5.1.1]
theorem step_appM {w : World} {ops : Array Oper} {o : Oper} {a : Go.Act} {K : Go.Act → World → Prop} {Q : Exit → Go.Act → World → Prop} {E : Prop} (hgd : o.guard = none) (s x : Operand)
    (ho : o.op = .call { callee := .builtin .append, args := #[s, x], argTypes := #[22, 22] }) (A : Option Addr) (c : Nat) (l : List Mg) (n : Nat) (hn : n = l.length) (hs : a.eval s = .slice A n c) (hro : RO w A c l)
    (ad : Addr) (cc : Nat) (m : Mg) (hx : a.eval x = .slice (some ad) 1 cc) (hm : ∀ j u, m.cells[j]? = some u → w.cell? (ad.add j) = some u) (hl : l.length ≤ 1000000)
    (h : ∀ A' c' w', RO w' A' c' (l ++ [m]) → w.grownBy w' (blk A) → (blk A' = blk A ∨ blk A' = some w.heap.size) → K (a.put o.dst (.slice A' (n + 1) c')) w') :
    if Region.wanted o (yielded ops a.tmps) = true then Oper.wp Try.prog o a w K Q else E := by
  have hw : Region.wanted o (yielded ops a.tmps) = true := by simp [Region.wanted, hgd]
  rw [if_pos hw]
  subst hn
  obtain ⟨A', c', w', hrun, h1, h2, h3⟩ := app_run hro o.type ad cc m hm hl
  unfold Oper.wp execOp
  simp only [ho, resolve, invoke, builtin, Sem.run_bind, Sem.run_pure, Result.andThen_ok, List.map_toArray, List.map_cons, List.map_nil, hs, hx, hrun]
  exact h A' c' w' h1 h2 h3
end Go.Proofs.Ythoammfpjheodaa.Or
