import Derived.Test.YtidbkkebkgeioaaSc
namespace Go.Proofs.Ytidbkkebkgeioaa.Sl
open Go.ChangeShapes Go.WideShapes Go.ChangeAt Go.RowKit Go.Shelf Go.Sort
open Base (hid cell_new1 cell_old1 froz_new1 froz_old1)
open TmA (own_some)
attribute [local go_sem] Oper.semAt_some
set_option linter.unusedVariables false
set_option linter.unusedSimpArgs false
set_option maxRecDepth 100000
theorem drewN_more {X wr : World} (h : ∃ q, wr = X.drewN q) (n : Nat) : ∃ q, wr.drewN n = X.drewN q := by
  obtain ⟨q, rfl⟩ := h
  exact ⟨q + n, by simp [World.drewN, Nat.add_assoc]⟩
set_option maxHeartbeats 1000000 in
theorem ints_calls (v v' : Value) (B : Nat) (l : List Int) (w : World) (h : w.ownsRow B 3 1 v l.length (l.map (.int .i64))) (h' : w.ownsRow B 3 1 v' l.length (l.map (.int .i64))) (hl : l.length ≤ 1000000) :
    Calls Try.prog 13 #[v, v'] w fun e w' => e = .returned (.bool true) ∧ ∃ q, w' = w.drewN q := by
  obtain ⟨A, c, rfl, _⟩ := Base.slice_of_row h
  obtain ⟨A', c', rfl, _⟩ := Base.slice_of_row h'
  have H := hid h
  have H' := hid h'
  clear h h'
  go_enter Try.func13, Try.ntmps13
  go_wp2
  go_loopw [13] (fun v13 wr => ∃ i : Nat, i ≤ l.length ∧ v13 = .int .i64 i ∧ Hid (∃ q, wr = w.drewN q)) (fun v13 _ => l.length - (intOf v13).toNat)
  case atStart => exact ⟨0, Nat.zero_le _, rfl, hid ⟨0, rfl⟩⟩
  case round =>
    obtain ⟨i, hil, rfl, HQ⟩ := hrel
    by_cases hlt : i < l.length
    · obtain ⟨g, c1, e1, _⟩ := own_some H.out (by omega)
      obtain ⟨g', c2, e2, _⟩ := own_some H'.out (by omega)
      cases e1
      cases e2
      obtain ⟨k, hk⟩ : ∃ k, l[i] = k := ⟨_, rfl⟩
      have c0 : wr.cell? ⟨g, i, none⟩ = some (.int .i64 k) := by
        obtain ⟨q, rfl⟩ := HQ.out
        have h1 := H.out.cells (g := g) rfl i (.int .i64 l[i]) (by simp [hlt])
        rw [TmA.add0, hk] at h1
        exact h1
      have c0' : wr.cell? ⟨g', i, none⟩ = some (.int .i64 k) := by
        obtain ⟨q, rfl⟩ := HQ.out
        have h1 := H'.out.cells (g := g') rfl i (.int .i64 l[i]) (by simp [hlt])
        rw [TmA.add0, hk] at h1
        exact h1
      have hd : (k != k) = false := by simp
      have hd' : (k == k) = true := by simp
      clear hk
      go_wp2
      go_quiet (fail)
      go_wp2
      go_roundw
      case rel => exact ⟨i + 1, by omega, by go_num, hid (drewN_more HQ.out _)⟩
      case measure => simp [intOf]; omega
    · obtain rfl : i = l.length := by omega
      go_wp2
      go_ret
      exact ⟨rfl, HQ.out⟩
set_option maxHeartbeats 1000000 in
theorem words_calls (v v' : Value) (B : Nat) (l : List Int) (w : World) (h : w.ownsRow B 22 1 v l.length (l.map (.int .u32))) (h' : w.ownsRow B 22 1 v' l.length (l.map (.int .u32))) (hl : l.length ≤ 1000000) :
    Calls Try.prog 15 #[v, v'] w fun e w' => e = .returned (.bool true) ∧ ∃ q, w' = w.drewN q := by
  obtain ⟨A, c, rfl, _⟩ := Base.slice_of_row h
  obtain ⟨A', c', rfl, _⟩ := Base.slice_of_row h'
  have H := hid h
  have H' := hid h'
  clear h h'
  go_enter Try.func15, Try.ntmps15
  go_wp2
  go_loopw [13] (fun v13 wr => ∃ i : Nat, i ≤ l.length ∧ v13 = .int .i64 i ∧ Hid (∃ q, wr = w.drewN q)) (fun v13 _ => l.length - (intOf v13).toNat)
  case atStart => exact ⟨0, Nat.zero_le _, rfl, hid ⟨0, rfl⟩⟩
  case round =>
    obtain ⟨i, hil, rfl, HQ⟩ := hrel
    by_cases hlt : i < l.length
    · obtain ⟨g, c1, e1, _⟩ := own_some H.out (by omega)
      obtain ⟨g', c2, e2, _⟩ := own_some H'.out (by omega)
      cases e1
      cases e2
      obtain ⟨k, hk⟩ : ∃ k, l[i] = k := ⟨_, rfl⟩
      have c0 : wr.cell? ⟨g, i, none⟩ = some (.int .u32 k) := by
        obtain ⟨q, rfl⟩ := HQ.out
        have h1 := H.out.cells (g := g) rfl i (.int .u32 l[i]) (by simp [hlt])
        rw [TmA.add0, hk] at h1
        exact h1
      have c0' : wr.cell? ⟨g', i, none⟩ = some (.int .u32 k) := by
        obtain ⟨q, rfl⟩ := HQ.out
        have h1 := H'.out.cells (g := g') rfl i (.int .u32 l[i]) (by simp [hlt])
        rw [TmA.add0, hk] at h1
        exact h1
      have hd : (k != k) = false := by simp
      have hd' : (k == k) = true := by simp
      clear hk
      go_wp2
      go_quiet (fail)
      go_wp2
      go_roundw
      case rel => exact ⟨i + 1, by omega, by go_num, hid (drewN_more HQ.out _)⟩
      case measure => simp [intOf]; omega
    · obtain rfl : i = l.length := by omega
      go_wp2
      go_ret
      exact ⟨rfl, HQ.out⟩
theorem far0_val (a b : Int) (ha : U a) (hb : U b) : (wrap64 ((b - a).tmod 4294967296 + 4294967296)).tmod 4294967296 = far a b := by
  unfold U at *
  have h1 : (b - a).tmod 4294967296 = b - a := by
    by_cases h : 0 ≤ b - a
    · exact Int.tmod_eq_of_lt h (by omega)
    · have := Int.neg_tmod (a := a - b) (b := 4294967296)
      rw [show -(a - b) = b - a from by omega] at this
      rw [this, Int.tmod_eq_of_lt (by omega) (by omega)]; omega
  rw [h1]
  have h2 : wrap64 (b - a + 4294967296) = b - a + 4294967296 := by unfold wrap64; omega
  rw [h2, Int.tmod_eq_emod_of_nonneg (by omega), Int.add_emod_right]
  rfl
theorem rfar_calls (a b : Int) (ha : U a) (hb : U b) (w : World) : Calls Try.prog 37 #[.int .i64 a, .int .i64 b, .int .i64 4294967296] w fun e w' => e = .returned (.int .i64 (far a b)) ∧ w = w' := by
  have hv := far0_val a b ha hb
  unfold U at ha hb
  go_enter Try.func37, Try.ntmps37
  go_wp2
  go_ret
  exact ⟨rfl, rfl⟩
theorem step0_val (a n : Int) (ha : U a) : (wrap64 (wrap64 (a + n.tmod 4294967296) + 4294967296)).tmod 4294967296 = (a + n) % 4294967296 := by
  unfold U at ha
  have e : n.tmod 4294967296 = n - 4294967296 * n.tdiv 4294967296 := by have := Int.tmod_add_mul_tdiv n 4294967296; omega
  have h1 : -4294967296 < n.tmod 4294967296 := by have := Int.lt_tmod_of_pos n (show (0 : Int) < 4294967296 by omega); omega
  have h2 : n.tmod 4294967296 < 4294967296 := Int.tmod_lt_of_pos n (by omega)
  have w1 : wrap64 (a + n.tmod 4294967296) = a + n.tmod 4294967296 := by unfold wrap64; omega
  have w2 : wrap64 (a + n.tmod 4294967296 + 4294967296) = a + n.tmod 4294967296 + 4294967296 := by unfold wrap64; omega
  rw [w1, w2, Int.tmod_eq_emod_of_nonneg (by omega), Int.add_emod_right, e]
  rw [show a + (n - 4294967296 * n.tdiv 4294967296) = (a + n) + 4294967296 * (-(n.tdiv 4294967296)) by omega, Int.add_mul_emod_self_left]
theorem rstep_calls (a n : Int) (ha : U a) (w : World) : Calls Try.prog 12 #[.int .i64 a, .int .i64 n, .int .i64 4294967296] w fun e w' => e = .returned (.int .i64 ((a + n) % 4294967296)) ∧ w = w' := by
  have hv := step0_val a n ha
  go_enter Try.func12, Try.ntmps12
  go_wp2
  go_ret
  exact ⟨rfl, rfl⟩
end Go.Proofs.Ytidbkkebkgeioaa.Sl
