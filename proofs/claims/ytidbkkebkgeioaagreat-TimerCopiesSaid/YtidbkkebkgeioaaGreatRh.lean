import Derived.Test.YtidbkkebkgeioaaGreatRg
import Derived.Test.YtidbkkebkgeioaaGreatTmR
namespace Go.Proofs.YtidbkkebkgeioaaGreat.En
open Go.ChangeShapes Go.WideShapes Go.ChangeAt Go.RowKit Go.Shelf MK
open Base (hid cell_new1 cell_old1 froz_new1 froz_old1)
open TmA
open TmR (Act Row Row.below)
attribute [local go_sem] Oper.semAt_some
set_option linter.unusedVariables false
set_option linter.unusedSimpArgs false
set_option maxRecDepth 100000
theorem num_nil (w : World) : Calls Tryz.prog 25 #[.nilIface] w fun e w' => e = .returned (.int .i64 0) ∧ w = w' := by
  go_enter Tryz.func25, Tryz.ntmps25
  go_wp2
  go_ret
  exact ⟨rfl, rfl⟩
theorem num_err (k : Int) (hk : k ≠ 0) (w : World) : Calls Tryz.prog 25 #[.iface 42 (.int .i64 k)] w fun e w' => e = .returned (.int .i64 k) ∧ w = w' := by
  have hd : (k != 0) = true := by simpa using hk
  have ht : ∀ w, (Instr.typeAssert (.iface 42 (.int .i64 k)) 40 42 true).run Tryz.prog w = .ok (.tuple #[.int .i64 k, .bool true]) w := by
    intro w
    have r42 := run_underlying Tryz.underlying42 w
    simp [Instr.typeAssert, r42, Sem.run_bind, go_sem]
  have ht : ∀ w, (Instr.typeAssert (.iface 42 (.int .i64 k)) 40 42 true).run Tryz.prog w = .ok (.tuple #[.int .i64 k, .bool true]) w := by
    intro w
    have r42 := run_underlying Tryz.underlying42 w
    simp [Instr.typeAssert, r42, Sem.run_bind, go_sem]
  have ht : ∀ w, (Instr.typeAssert (.iface 42 (.int .i64 k)) 40 42 true).run Tryz.prog w = .ok (.tuple #[.int .i64 k, .bool true]) w := by
    intro w
    have r42 := run_underlying Tryz.underlying42 w
    simp [Instr.typeAssert, r42, Sem.run_bind, go_sem]
  go_enter Tryz.func25, Tryz.ntmps25
  go_wp2
  go_ret
  exact ⟨rfl, rfl⟩
set_option maxHeartbeats 1000000 in
theorem ints_calls (v v' : Value) (B : Nat) (l : List Int) (w : World) (h : w.ownsRow B 3 1 v l.length (l.map (.int .i64))) (h' : w.ownsRow B 3 1 v' l.length (l.map (.int .i64))) (hl : l.length ≤ 1000000) :
    Calls Tryz.prog 28 #[v, v'] w fun e w' => e = .returned (.bool true) ∧ ∃ q, w' = w.drewN q := by
  obtain ⟨A, c, rfl, _⟩ := Base.slice_of_row h
  obtain ⟨A', c', rfl, _⟩ := Base.slice_of_row h'
  have H := hid h
  have H' := hid h'
  clear h h'
  go_enter Tryz.func28, Tryz.ntmps28
  go_wp2
  go_loopw [13] (fun v13 wr => ∃ i : Nat, i ≤ l.length ∧ v13 = .int .i64 i ∧ Hid (∃ q, wr = w.drewN q)) (fun v13 _ => l.length - (intOf v13).toNat)
  case atStart => exact ⟨0, Nat.zero_le _, rfl, hid ⟨0, rfl⟩⟩
  case round =>
    obtain ⟨i, hil, rfl, HQ⟩ := hrel
    by_cases hlt : i < l.length
    · obtain ⟨g, c1, e1, _⟩ := own_some H.out (by omega)
      obtain ⟨g', c2, e2, _⟩ := own_some H'.out (by omega)
      cases e1
      cases e2
      obtain ⟨k, hk⟩ : ∃ k, l[i] = k := ⟨_, rfl⟩
      have c0 : wr.cell? ⟨g, i, none⟩ = some (.int .i64 k) := by
        obtain ⟨q, rfl⟩ := HQ.out
        have h1 := H.out.cells (g := g) rfl i (.int .i64 l[i]) (by simp [hlt])
        rw [TmA.add0, hk] at h1
        exact h1
      have c0' : wr.cell? ⟨g', i, none⟩ = some (.int .i64 k) := by
        obtain ⟨q, rfl⟩ := HQ.out
        have h1 := H'.out.cells (g := g') rfl i (.int .i64 l[i]) (by simp [hlt])
        rw [TmA.add0, hk] at h1
        exact h1
      have hd : (k != k) = false := by simp
      have hd' : (k == k) = true := by simp
      clear hk
      go_wp2
      go_quiet (fail)
      go_wp2
      go_roundw
      case rel => exact ⟨i + 1, by omega, by go_num, hid (drewN_more HQ.out _)⟩
      case measure => simp [intOf]; omega
    · obtain rfl : i = l.length := by omega
      go_wp2
      go_ret
      exact ⟨rfl, HQ.out⟩
set_option maxHeartbeats 4000000 in
theorem stands_calls (w : World) (bt b n : Nat) (m : Tm.M) (A : Option Addr) (c : Nat) (hT : Tab w bt b n m) (hO : Own w 0 A c m) (hl : m.length ≤ 100000) :
    Calls Tryz.prog 10 #[.pointer (some ⟨bt, 0, none⟩), .slice A m.length c] w fun e w' => e = .returned (.bool true) ∧ Below w.heap.size w w' := by
  have HT := hid hT
  have HO := hid hO
  clear hT hO
  go_enter Tryz.func10, Tryz.ntmps10
  go_wp2
  go_loopw [16] (fun v16 wr => ∃ i : Nat, i ≤ m.length ∧ v16 = .int .i64 i ∧ Hid (Below w.heap.size w wr)) (fun v16 _ => m.length - (intOf v16).toNat)
  case atStart => exact ⟨0, Nat.zero_le _, rfl, hid (Below.refl _ _)⟩
  case round =>
    obtain ⟨i, hil, rfl, HB⟩ := hrel
    have hsr := HB.out.size
    have HT1 : Hid (Tab wr bt b n m) := hid (HT.out.below HB.out)
    have HO1 : Hid (Own wr 0 A c m) := hid (Base.ownsRow_later HO.out HB.out)
    by_cases hlt : i < m.length
    · obtain ⟨p, hp⟩ : ∃ p, m[i] = p := ⟨_, rfl⟩
      have hmem : p ∈ m := hp ▸ List.getElem_mem hlt
      obtain ⟨ad, rfl, hb1, hb2, c0, c1⟩ := HO1.out.at i hlt
      rw [hp] at c0 c1
      have hlook := Tm.look_of_mem HT.out.ok (show (p.1, p.2) ∈ m from hmem)
      have hat := at_calls (wr.alloc (.cells #[.int .i64 p.1, .int .i64 p.2] 66)) bt b n m p.1 (HT1.out.below (below_alloc (Below.refl _ _) _)) (HT.out.wf p hmem).1
      rw [hlook, Tm.lk_of_look hlook] at hat
      have hd : (p.2 != p.2) = false := by simp
      have HAT := hid hat
      clear hat hlook hmem hp
      go_wp2_with (go_at_call 13; go_must (refine HAT.out.mono ?_; rintro e w1 ⟨rfl, rfl⟩))
      go_roundw
      case rel => exact ⟨i + 1, by omega, by go_num, hid (HB.out.alloc hsr _)⟩
      case measure => simp [intOf]; omega
    · obtain rfl : i = m.length := by omega
      have hnx := next_calls wr bt b n m HT1.out (by omega)
      have hrn := fun w1 (hB : Below wr.heap.size wr w1) => rnext_calls A c 0 m w1 (Base.ownsRow_later HO1.out hB) HT.out.ok (by omega)
      cases ho : Tm.order m with
      | nil =>
        have en : nextV m = .tuple #[.int .i64 0, .int .i64 0, .bool false] := by unfold nextV; rw [ho]
        have er : rnextV m = .tuple #[.agg #[.int .i64 0, .int .i64 0], .bool false] := by unfold rnextV; rw [ho]
        rw [en] at hnx
        rw [er] at hrn
        have HNX := hid hnx
        have HRN := hid hrn
        clear hnx hrn en er ho
        go_wp2_with (first
          | (go_at_call 12; go_must (refine HNX.out.mono ?_; rintro e w1 ⟨rfl, hB⟩; have HB1 := hid hB; clear hB))
          | (go_at_call 31; go_must (refine (HRN.out w1 HB1.out).mono ?_; rintro e w2 ⟨rfl, hB⟩; have HB2 := hid (HB1.out.trans (hB.mono HB1.out.size)); clear hB))
          | (go_at_call 19; go_must (refine (len_calls _ bt b n m (HT1.out.below (HB2.out.alloc HB2.out.size _))).mono ?_; rintro e w3 ⟨rfl, rfl⟩)))
        go_ret
        exact ⟨by simp, (HB.out.trans (HB2.out.mono hsr)).alloc (Nat.le_trans hsr HB2.out.size) _⟩
      | cons k r =>
        have en : nextV m = .tuple #[.int .i64 k, .int .i64 (Tm.lk m k), .bool true] := by unfold nextV; rw [ho]
        have er : rnextV m = .tuple #[.agg #[.int .i64 k, .int .i64 (Tm.lk m k)], .bool true] := by unfold rnextV; rw [ho]
        rw [en] at hnx
        rw [er] at hrn
        generalize Tm.lk m k = u at hnx hrn
        have HNX := hid hnx
        have HRN := hid hrn
        clear hnx hrn en er ho
        go_wp2_with (first
          | (go_at_call 12; go_must (refine HNX.out.mono ?_; rintro e w1 ⟨rfl, hB⟩; have HB1 := hid hB; clear hB))
          | (go_at_call 31; go_must (refine (HRN.out w1 HB1.out).mono ?_; rintro e w2 ⟨rfl, hB⟩; have HB2 := hid (HB1.out.trans (hB.mono HB1.out.size)); clear hB))
          | (go_at_call 19; go_must (refine (len_calls _ bt b n m (HT1.out.below (HB2.out.alloc HB2.out.size _))).mono ?_; rintro e w3 ⟨rfl, rfl⟩)))
        go_ret
        exact ⟨by simp, (HB.out.trans (HB2.out.mono hsr)).alloc (Nat.le_trans hsr HB2.out.size) _⟩
theorem own_not_map {w : World} {A : Option Addr} {c bt b n : Nat} {l m : Tm.M} (h : Own w 0 A c l) (hT : Tab w bt b n m) : (Value.slice A l.length c).ownBlock ≠ some b := by
  intro e
  obtain ⟨D, ⟨es, clock, hbm, _⟩, _⟩ := hT.map
  rcases h.2 with ⟨e', _⟩ | ⟨g', cap, cur, e', hb', hgg, _⟩
  · rw [e'] at e
    simp [Value.ownBlock] at e
  · rw [e'] at e
    simp [Value.ownBlock] at e
    subst e
    rw [hbm] at hgg
    cases hgg
theorem own_kept {w w' : World} {A : Option Addr} {c bt b n : Nat} {l m : Tm.M} (h : Own w 0 A c l) (hT : Tab w bt b n m) (hg : w.grownBy w' (some b)) : Own w' 0 A c l :=
  World.ownsRow.kept h hg (.inr (own_not_map h hT))
end Go.Proofs.YtidbkkebkgeioaaGreat.En
