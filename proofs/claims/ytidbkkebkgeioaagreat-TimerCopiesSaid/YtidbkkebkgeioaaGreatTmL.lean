import Derived.Test.YtidbkkebkgeioaaGreatTmS
namespace Go.Proofs.YtidbkkebkgeioaaGreat.TmS
open Go.ChangeShapes Go.WideShapes Go.ChangeAt Go.RowKit Go.Shelf MK
open Base (hid cell_new1 cell_old1 froz_new1 froz_old1)
open TmA (below_alloc lt_of_cell turned_block own_some)
attribute [local go_sem] Oper.semAt_some
set_option linter.unusedVariables false
set_option maxRecDepth 100000
def m3 : Tm.M := [(97, 5), (98, 5), (99, 3)]
theorem put3 : Tm.put (Tm.put (Tm.put [] 98 5) 97 5) 99 3 = m3 := by decide
theorem order3 : Tm.order m3 = [99, 97, 98] := by
  refine List.Perm.eq_of_pairwise (fun a b _ _ h1 h2 => Tm.le_antisymm m3 a b h1 h2) (Tm.order_sorted m3) (by decide) ((Tm.order_perm m3).trans (by decide))
theorem due3 : Tm.due m3 5 = [99, 97, 98] := by
  unfold Tm.due
  rw [order3]
  decide
theorem rest3 : Tm.rest m3 5 = [] := by
  unfold Tm.rest
  rw [due3]
  decide
theorem below_turned {w W W' : World} {b : Nat} (h : Below w.heap.size w W) (ht : W.mapTurned W' b) (hb : w.heap.size ≤ b) : Below w.heap.size w W' :=
  h.grown ht.grown h.size (fun k e => by cases e; exact hb)
set_option maxHeartbeats 4000000 in
theorem alive_calls (w : World) : Calls Tryz.prog 5 #[] w fun e w' => e = .returned (.bool true) ∧ Below w.heap.size w w' := by
  go_enter Tryz.func5, Tryz.ntmps5
  go_wp2_with (go_at_call 20; refine (new_calls _).mono ?_; rintro e w1 ⟨bt, b, rfl, hT, hbt, hb, hB⟩; have HT := hid hT; have HB := hid hB; clear hT hB)
  have s1 := set_ok w1 bt b 0 [] 98 5 HT.out (.inr (.inl rfl)) (by omega) (by omega)
  rw [sb_98] at s1
  refine s1.mono ?_
  clear s1
  rintro e w2 ⟨rfl, hT, ht⟩
  have HT2 := hid hT
  have HB2 := hid (below_turned HB.out ht hb)
  clear hT ht
  go_wp2_with fail
  have s1 := set_ok w2 bt b 1 _ 97 5 HT2.out (.inl rfl) (by omega) (by omega)
  rw [sb_97] at s1
  refine s1.mono ?_
  clear s1
  rintro e w3 ⟨rfl, hT, ht⟩
  have HT3 := hid hT
  have HB3 := hid (below_turned HB2.out ht hb)
  clear hT ht
  go_wp2_with fail
  have s1 := set_ok w3 bt b 2 _ 99 3 HT3.out (.inr (.inr rfl)) (by omega) (by omega)
  rw [sb_99, put3] at s1
  refine s1.mono ?_
  clear s1
  rintro e w4 ⟨rfl, hT, ht⟩
  have HT4 := hid hT
  have HB4 := hid (below_turned HB3.out ht hb)
  clear hT ht
  go_wp2_with fail
  have s1 := due_calls w4 bt b 3 m3 5 HT4.out (by decide)
  rw [due3, rest3] at s1
  refine s1.mono ?_
  clear s1
  rintro e w5 ⟨v, rfl, hr, hT, hg⟩
  obtain ⟨g, c, rfl, hgb⟩ := own_some hr (by simp)
  have c0 : w5.cell? ⟨g, 0, none⟩ = some (.string ⟨#[99]⟩) := hr.cells (g := g) rfl 0 _ rfl
  have c1 : w5.cell? ⟨g, 1, none⟩ = some (.string ⟨#[97]⟩) := hr.cells (g := g) rfl 1 _ rfl
  have c2 : w5.cell? ⟨g, 2, none⟩ = some (.string ⟨#[98]⟩) := hr.cells (g := g) rfl 2 _ rfl
  have HT5 := hid hT
  have HB5 := hid (HB4.out.grown hg HB4.out.size (fun k e => by cases e; exact hb))
  clear hr hT hg
  simp only [List.length_cons, List.length_nil]
  go_wp2_with (go_at_call 23; go_must (refine (len_calls w5 bt b 3 [] HT5.out).mono ?_; rintro e w6 ⟨rfl, rfl⟩; simp only [List.length_nil]))
  go_ret
  exact ⟨rfl, HB5.out⟩
end Go.Proofs.YtidbkkebkgeioaaGreat.TmS
