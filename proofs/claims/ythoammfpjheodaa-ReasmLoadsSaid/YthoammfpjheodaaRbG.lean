import Derived.Test.YthoammfpjheodaaRbF
import Derived.Test.YthoammfpjheodaaRbD
namespace Go.Proofs.Ythoammfpjheodaa.Rz
open Go.ChangeShapes Go.WideShapes Go.ChangeAt Go.RowKit Go.Shelf MK Go.Joins
open Base (hid cell_new1 cell_old1 froz_new1 froz_old1)
attribute [local go_sem] Oper.semAt_some
set_option linter.unusedVariables false
set_option linter.unusedSimpArgs false
set_option maxRecDepth 100000
/-! Load and Right are one; a nil bench -/
theorem mayE_iff {m : List Pm} {p : Pm} : mayE m p = 0 ↔ rightP p = true ∧ (look m p.t).isSome = false ∧ held m + p.x.length ≤ 2000 := by
  constructor
  · intro h
    obtain ⟨h1, h2, h3⟩ := may_zero h
    exact ⟨h1, by rw [h2]; rfl, h3⟩
  · rintro ⟨h1, h2, h3⟩
    unfold mayE
    rw [if_neg (by rw [h1]; decide), if_neg (by rw [h2]; decide), if_neg (by omega)]
theorem loadP_iff {l : List Pm} : loadP l = true ↔ (∀ i (hi : i < l.length), mayE (l.take i) l[i] = 0) ∧ ∀ p ∈ l, closed (rpart l p) = false := by
  constructor
  · intro h
    have h1 : ∀ i (hi : i < l.length), mayE (l.take i) l[i] = 0 := fun i hi => Decidable.byContradiction fun hc => by
      rw [loadP_no hi hc] at h
      cases h
    refine ⟨h1, fun p hp => ?_⟩
    rw [loadP_yes h1] at h
    simp only [Bool.not_eq_true', List.any_eq_false] at h
    have := h p hp
    simpa using this
  · rintro ⟨h1, h2⟩
    rw [loadP_yes h1]
    simp only [Bool.not_eq_true', List.any_eq_false]
    intro p hp
    simp [h2 p hp]
theorem rightL_iff {l : List Pm} : rightL l = true ↔ (∀ i (hi : i < l.length), badR l i l[i] = false) ∧ held l ≤ 2000 := by
  constructor
  · intro h
    have h1 : ∀ i (hi : i < l.length), badR l i l[i] = false := fun i hi => by
      cases hb : badR l i l[i] with
      | false => rfl
      | true => rw [rightL_no hi hb] at h; cases h
    rw [rightL_yes h1] at h
    exact ⟨h1, by simpa using h⟩
  · rintro ⟨h1, h2⟩
    rw [rightL_yes h1]
    simpa using h2
theorem load_right (l : List Pm) : loadP l = rightL l := by
  rw [Bool.eq_iff_iff, loadP_iff, rightL_iff]
  constructor
  · rintro ⟨h1, h2⟩
    refine ⟨fun i hi => ?_, ?_⟩
    · obtain ⟨a, b, _⟩ := mayE_iff.1 (h1 i hi)
      unfold badR
      rw [a, b, h2 _ (List.getElem_mem hi)]
      rfl
    · rcases Nat.eq_zero_or_pos l.length with h0 | h0
      · rw [List.eq_nil_of_length_eq_zero h0]
        exact Nat.zero_le _
      · obtain ⟨_, _, c⟩ := mayE_iff.1 (h1 (l.length - 1) (by omega))
        have := held_take_succ l (l.length - 1) (by omega)
        rw [show l.length - 1 + 1 = l.length by omega, List.take_length] at this
        omega
  · rintro ⟨h1, h2⟩
    have h3 : ∀ i (hi : i < l.length), rightP l[i] = true ∧ (look (l.take i) l[i].t).isSome = false ∧ closed (rpart l l[i]) = false := fun i hi => by
      have := h1 i hi
      unfold badR at this
      simp only [Bool.or_eq_false_iff, Bool.not_eq_false'] at this
      exact ⟨this.1, this.2.1, this.2.2⟩
    refine ⟨fun i hi => mayE_iff.2 ⟨(h3 i hi).1, (h3 i hi).2.1, ?_⟩, fun p hp => ?_⟩
    · have a := held_take_succ l i hi
      have b := held_take_le l (i + 1)
      omega
    · obtain ⟨i, hi, rfl⟩ := List.getElem_of_mem hp
      exact (h3 i hi).2.2
theorem Sim.takeK {l r : List Pm} (h : Sim l r) (k : Nat) : Sim (l.take k) (r.take k) := by
  unfold Sim at *
  rw [List.map_take, List.map_take, h]
theorem load_sim {l r : List Pm} (h : Sim l r) : loadP l = loadP r := by
  rw [Bool.eq_iff_iff, loadP_iff, loadP_iff]
  have key : ∀ {l r : List Pm}, Sim l r → ((∀ i (hi : i < l.length), mayE (l.take i) l[i] = 0) ∧ ∀ p ∈ l, closed (rpart l p) = false) → ((∀ i (hi : i < r.length), mayE (r.take i) r[i] = 0) ∧ ∀ p ∈ r, closed (rpart r p) = false) := by
    intro l r h ⟨h1, h2⟩
    have hlen := h.len
    refine ⟨fun i hi => ?_, fun p hp => ?_⟩
    · rw [← mayE_sim (h.takeK i) (h.at i (by omega) hi)]
      exact h1 i (by omega)
    · obtain ⟨q, hq, e⟩ := h.symm.mem hp
      rw [← closed_sim (rpart_sim h e.symm)]
      exact h2 q hq
  exact ⟨key h, key h.symm⟩
theorem owns_sim {B : Nat} {w : World} {l L : List Pm} (h : Owns B w l L) (hl : L.length = l.length) : Sim L l := by
  unfold Sim
  refine List.ext_getElem (by simpa using hl) fun i h1 h2 => ?_
  rw [List.getElem_map, List.getElem_map]
  rw [(h.at_ i (by simpa using h1) (by simpa using h2)).eq]
  rfl
theorem is_calls (n k : Int) (w : World) : Calls Try.prog 30 #[errV n, .int .i64 k] w fun e w' => e = .returned (.bool (n == k)) ∧ w = w' := by
  have hn := num_calls n w
  have HN := hid hn
  clear hn
  obtain ⟨v, hv⟩ : ∃ v, errV n = v := ⟨_, rfl⟩
  rw [hv] at HN ⊢
  go_enter Try.func30, Try.ntmps30
  go_wp2_with (go_at_call 65; go_must (refine HN.out.mono ?_; rintro e w' ⟨rfl, rfl⟩))
  go_ret
  exact ⟨rfl, rfl⟩
theorem none_len (w : World) : Calls Try.prog 16 #[.pointer none] w fun e w' => e = .returned (.int .i64 0) ∧ w = w' := by
  go_enter Try.func16, Try.ntmps16
  go_wp2
  go_ret
  exact ⟨rfl, rfl⟩
theorem none_held (w : World) : Calls Try.prog 17 #[.pointer none] w fun e w' => e = .returned (.int .i64 0) ∧ w = w' := by
  go_enter Try.func17, Try.ntmps17
  go_wp2
  go_ret
  exact ⟨rfl, rfl⟩
theorem none_has (w : World) (t : Int) : Calls Try.prog 37 #[.pointer none, .int .u32 t] w fun e w' => e = .returned (.bool false) ∧ w = w' := by
  go_enter Try.func37, Try.ntmps37
  go_wp2
  go_ret
  exact ⟨rfl, rfl⟩
theorem none_pieces (w : World) (t : Int) : Calls Try.prog 35 #[.pointer none, .int .u32 t] w fun e w' => e = .returned (.slice none 0 0) ∧ w = w' := by
  go_enter Try.func35, Try.ntmps35
  go_wp2
  go_ret
  exact ⟨rfl, rfl⟩
theorem none_copy (w : World) : Calls Try.prog 41 #[.pointer none] w fun e w' => e = .returned (.pointer none) ∧ w = w' := by
  go_enter Try.func41, Try.ntmps41
  go_wp2
  go_ret
  exact ⟨rfl, rfl⟩
theorem none_may (w : World) (p : Pm) : Calls Try.prog 47 #[.pointer none, p.val] w fun e w' => e = .returned (.iface 81 (.int .i64 4)) ∧ Below w.heap.size w w' := by
  unfold Pm.val
  go_enter Try.func47, Try.ntmps47
  go_wp2
  go_ret
  exact ⟨rfl, below_alloc (Below.refl _ _) _⟩
theorem none_put (w : World) (p : Pm) : Calls Try.prog 14 #[.pointer none, p.val] w fun e w' => e = .returned (.tuple #[.agg #[.int .i64 0, .bool false, .slice none 0 0, .int .u16 0], .bool false, .iface 81 (.int .i64 4)]) ∧ Below w.heap.size w w' := by
  have HV : Hid (p.val = .agg #[.int .u32 p.t, .int .u16 p.s, .int .u16 p.q, .bool p.b, .bool p.e, .bool p.u, .slice p.A p.x.length p.c]) := hid rfl
  obtain ⟨w1, hw1⟩ : ∃ w1, w1 = (w.alloc (.cells #[.int .u32 p.t, .int .u16 p.s, .int .u16 p.q, .bool p.b, .bool p.e, .bool p.u, .slice p.A p.x.length p.c] 40)).alloc (.cells #[.int .i64 0, .bool false, .slice none 0 0, .int .u16 0] 45) := ⟨_, rfl⟩
  have hb1 : Below w.heap.size w w1 := by rw [hw1]; exact below_alloc (below_alloc (Below.refl _ _) _) _
  have hbx : Box w1 w.heap.size p := by rw [hw1]; exact (Box.new w p).below (below_alloc (Below.refl _ _) _)
  have hdb : DB w1 (w.heap.size + 1) 0 false none 0 0 0 := by
    rw [hw1]
    have := DB.new (w.alloc (.cells #[.int .u32 p.t, .int .u16 p.s, .int .u16 p.q, .bool p.b, .bool p.e, .bool p.u, .slice p.A p.x.length p.c] 40)) 0 false none 0 0 0
    rw [World.size_alloc] at this
    exact this
  have hz1 : w1.heap.size = w.heap.size + 2 := by rw [hw1]; simp
  have HB1 := hid hb1
  have HDB := hid hdb
  have HW1 := hid hw1
  clear hb1 hw1 hdb
  obtain ⟨x0, x1, x2, x3, x4, x5, x6, xf⟩ := hbx
  rw [HV.out]
  go_enter Try.func14, Try.ntmps14
  go_upto_region 1 with fail
  rw [← HW1.out]
  go_wp2_with (go_at_call 47; rw [← HV.out]; go_must (refine (none_may w1 p).mono ?_; rintro e w2 ⟨rfl, hb2⟩; have HB2 := hid hb2; obtain ⟨d0, d1, d2, d3, df⟩ := HDB.out.block (hb2.block _ (by omega)); clear hb2))
  have hd2 : DB w2 (w.heap.size + 1) 0 false none 0 0 0 := ⟨d0, d1, d2, d3, df⟩
  have hds := hd2.set (s' := 0) (u' := false) (A' := none) (n' := 0) (c' := 0) (q' := 0)
  have g1 := setCells_grown (w.heap.size + 1) [.int .i64 0, .bool false, .slice none 0 0, .int .u16 0] 0 w2
  have hz2 := HB2.out.size
  exact bodyPost_ret (results456 rfl rfl rfl rfl hds) rfl ⟨rfl, (HB1.out.trans (HB2.out.mono (by omega))).grown g1 (by omega) (fun k e => by have := Option.some.inj e; omega)⟩
end Go.Proofs.Ythoammfpjheodaa.Rz
