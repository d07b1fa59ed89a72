import Derived.Test.YtidbkkebkgeioaaSb
namespace Go.Proofs.Ytidbkkebkgeioaa.Sl
open Go.ChangeShapes Go.WideShapes Go.ChangeAt Go.RowKit Go.Shelf Go.Sort
open Base (hid cell_new1 cell_old1 froz_new1 froz_old1)
attribute [local go_sem] Oper.semAt_some
set_option linter.unusedVariables false
set_option linter.unusedSimpArgs false
set_option maxRecDepth 100000
theorem compact_none (w : World) : Calls Try.prog 33 #[.slice none 0 0] w fun e w' => e = .returned (.slice none 0 0) ∧ w = w' := by
  go_enter Try.func33, Try.ntmps33
  go_wp2
  go_ret
  exact ⟨rfl, rfl⟩
theorem sortFunc_none' (n : Nat) (hn : n = 0) (w : World) (fv : Value) : Calls Try.prog 29 #[.slice none n 0, fv] w fun e w' => e = .returned (.tuple #[]) ∧ w = w' := by
  subst hn
  exact sortFunc_none w fv
theorem compact_none' (n : Nat) (hn : n = 0) (w : World) : Calls Try.prog 33 #[.slice none n 0] w fun e w' => e = .returned (.slice none 0 0) ∧ w = w' := by
  subst hn
  exact compact_none w
theorem clone_own (A : Option Addr) (c B : Nat) (xs : List Int) (w : World) (hl : xs.length ≤ 1000) (h : w.ownsRow B 22 1 (.slice A xs.length c) xs.length (xs.map (.int .u32))) :
    Calls Try.prog 28 #[.slice A xs.length c] w fun e w' => ∃ A' c', e = .returned (.slice A' xs.length c') ∧ w'.ownsRow w.heap.size 22 1 (.slice A' xs.length c') xs.length (xs.map (.int .u32)) ∧ Below w.heap.size w w' := by
  have h0 := h
  rcases h.2 with ⟨e, hz⟩ | ⟨g, cap, cur, e, hb, hg, _⟩
  · simp only [Value.slice.injEq] at e
    obtain ⟨rfl, _, rfl⟩ := e
    obtain rfl := List.eq_nil_of_length_eq_zero hz
    refine (It.clone_nil 0 0 w).mono ?_
    rintro e w' ⟨rfl, rfl⟩
    exact ⟨none, 0, rfl, World.ownsRow_nil _ _ _ _, Below.refl _ _⟩
  · cases e
    refine (It.clone_some g 0 xs.length c (xs.map (.int .u32)) (by simp) (by simp [Value.oneCell']) (by omega) w (fun j hj => ?_) (Array.getElem?_eq_some_iff.1 hg).1).mono ?_
    · have := h0.cells (g := g) rfl j _ (List.getElem?_eq_getElem hj)
      rw [TmA.add0] at this
      rw [Nat.zero_add, this, List.getElem?_eq_getElem hj]
    · rintro e w' ⟨v, rfl, hown, hbl⟩
      obtain ⟨A', c', rfl, _⟩ := Base.slice_of_row hown
      exact ⟨A', c', rfl, hown, hbl⟩
theorem exists_k32 (xs : List Int) (hu : ∀ x ∈ xs, U x) : ∃ ks : List K32, ks.map (·.1) = xs := ⟨xs.attachWith _ hu, by simp⟩
theorem map_encU (ks : List K32) : ks.map encU = (ks.map (·.1)).map (.int .u32) := by rw [List.map_map]; rfl
set_option maxHeartbeats 400000 in
theorem sort_calls (f : Int) (A : Option Addr) (c B : Nat) (xs : List Int) (w : World) (hl : xs.length ≤ 1000) (hu : ∀ x ∈ xs, U x) (h : w.ownsRow B 22 1 (.slice A xs.length c) xs.length (xs.map (.int .u32))) :
    Calls Try.prog 8 #[.int .u32 f, .slice A xs.length c] w fun e w' => ∃ A' c', e = .returned (.slice A' (rsort f xs).length c') ∧ w'.ownsRow w.heap.size 22 1 (.slice A' (rsort f xs).length c') (rsort f xs).length ((rsort f xs).map (.int .u32)) ∧ Below w.heap.size w w' := by
  obtain ⟨ks, hks⟩ := exists_k32 xs hu
  have hso := sorts f xs ((srt f ks).map (·.1)) hu (by rw [← hks]; exact srt_perm f ks) (srt_le f ks)
  have hlen : ((srt f ks).map (·.1)).length = xs.length := by rw [← hks]; exact (srt_perm f ks).length_eq
  have hkl : ks.length = xs.length := by rw [← hks, List.length_map]
  obtain ⟨ss, hss⟩ : ∃ ss, (srt f ks).map (·.1) = ss := ⟨_, rfl⟩
  rw [hss] at hso hlen
  obtain ⟨w1, hw1⟩ : ∃ w1, w1 = w.alloc (.cells #[.int .u32 f] 22) := ⟨_, rfl⟩
  have hb1 : Below w.heap.size w w1 := by rw [hw1]; exact TmA.below_alloc (Below.refl _ _) _
  have hcf : w1.cell? ⟨w.heap.size, 0, none⟩ = some (.int .u32 f) := by rw [hw1]; exact cell_new1 _ _ _ _ rfl 0
  have hcl := clone_own A c B xs w1 hl (Base.ownsRow_later h hb1)
  have HCL := hid hcl
  have HB1 := hid hb1
  have HW1 := hid hw1
  have HSO := hid hso
  clear hcl hb1 hso h hw1
  go_enter Try.func8, Try.ntmps8
  go_wp2_with (go_at_call 28; rw [← HW1.out]; go_must (refine HCL.out.mono ?_; rintro e w2 ⟨A2, c2, rfl, hO, hB⟩; have HO := hid hO; have HB := hid hB; clear hO hB))
  have hs2 := HB.out.size
  have hs1 := HB1.out.size
  rcases HO.out.2 with ⟨e, hz⟩ | ⟨g, cap, cur, e, hbg, _⟩
  · simp only [Value.slice.injEq] at e
    obtain ⟨rfl, _, rfl⟩ := e
    have hnil := List.eq_nil_of_length_eq_zero hz
    have hr : rsort f xs = [] := by rw [hnil]; rfl
    have HZ := hid hz
    have HRR := hid hr
    clear hz hnil hr
    refine (sortFunc_none' xs.length HZ.out w2 _).mono ?_
    rintro e w3 ⟨rfl, rfl⟩
    go_wp2_with fail
    refine (compact_none w2).mono ?_
    rintro e w3 ⟨rfl, rfl⟩
    go_wp2
    go_ret
    rw [HRR.out]
    exact ⟨none, 0, rfl, World.ownsRow_nil _ _ _ _, HB1.out.trans (HB.out.mono hs1)⟩
  · cases e
    have hO := HO.out
    rw [← hks, ← map_encU, List.length_map] at hO
    have hgne : g ≠ w.heap.size := by
      have := TmA.lt_of_cell hcf
      omega
    have hsf := sortFunc_calls w2 w.heap.size g c2 f w1.heap.size ks ((HB.out.cell (p := ⟨w.heap.size, 0, none⟩) (TmA.lt_of_cell hcf)).trans hcf) hO hgne (by omega)
    rw [hkl] at hsf
    have HSF := hid hsf
    have HSS := hid hss
    clear hsf hO hss
    go_wp2_with (go_at_call 29; go_must (refine HSF.out.mono ?_; rintro e w3 ⟨rfl, hO3, hG3⟩; have HO3 := hid hO3; have HG3 := hid hG3; clear hO3 hG3))
    have hO3 := HO3.out
    rw [map_encU, HSS.out, ← hlen] at hO3
    have hcm := compact_calls g c2 w1.heap.size ss w3 hO3 (by omega)
    rw [hlen, HSO.out] at hcm
    have HCM := hid hcm
    clear hO3 hcm
    go_wp2_with (go_at_call 33; go_must (refine HCM.out.mono ?_; rintro e w4 ⟨rfl, hO4, hG4⟩; have HO4 := hid hO4; have HG4 := hid hG4; clear hO4 hG4))
    go_ret
    exact ⟨some ⟨g, 0, none⟩, c2, rfl, Base.ownsRow_base HO4.out hs1, ((HB1.out.trans (HB.out.mono hs1)).grown (HG3.out.trans HG4.out) (by omega) (fun k e => by cases e; omega))⟩
end Go.Proofs.Ytidbkkebkgeioaa.Sl
