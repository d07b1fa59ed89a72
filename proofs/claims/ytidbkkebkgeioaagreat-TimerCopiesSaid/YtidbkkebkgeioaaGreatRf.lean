import Derived.Test.YtidbkkebkgeioaaGreatEn
import Derived.Test.YtidbkkebkgeioaaGreatTmB
import Derived.Deep.QuietTactic
import Derived.BigQuiet
namespace Go.Proofs.YtidbkkebkgeioaaGreat.Tm
theorem look_at : ∀ (l : M) (i : Nat) (h : i < l.length) (k : Int), l[i].1 = k → (∀ j (hj : j < l.length), j < i → l[j].1 ≠ k) → look l k = some l[i].2
  | [], i, h, _, _, _ => by simp at h
  | p :: l, 0, h, k, hk, _ => by
    rw [look_cons]
    exact if_pos hk
  | p :: l, i + 1, h, k, hk, hb => by
    have h0 : ¬ p.1 = k := hb 0 (by simp) (by omega)
    rw [look_cons, if_neg h0]
    exact look_at l i (by simpa using h) k hk fun j hj hji => hb (j + 1) (by simpa using hj) (by omega)
theorem look_no (l : M) (k : Int) (hb : ∀ j (hj : j < l.length), l[j].1 ≠ k) : look l k = none := by
  rw [look_none]
  intro hm
  obtain ⟨p, hp, rfl⟩ := List.mem_map.1 hm
  obtain ⟨j, hj, rfl⟩ := List.mem_iff_getElem.1 hp
  exact hb j hj rfl
theorem order_first {l : M} (ok : Ok l) (b : Nat) (h : b < l.length) (h1 : ∀ j (hj : j < l.length), l[b].2 ≤ l[j].2) (h2 : ∀ j (hj : j < l.length), j < b → l[b].2 < l[j].2) : ∃ r, order l = l[b].1 :: r ∧ lk l l[b].1 = l[b].2 := by
  have hx : look l l[b].1 = some l[b].2 := look_of_mem ok (List.getElem_mem h)
  cases ho : order l with
  | nil =>
    have := order_len l
    rw [ho] at this
    simp at this
    omega
  | cons k r =>
    obtain ⟨hs, hle⟩ := order_head ho
    have hle := hle l[b].1 (by rw [hx]; rfl)
    obtain ⟨v, hv⟩ := Option.isSome_iff_exists.1 hs
    obtain ⟨j, hj, e⟩ := List.mem_iff_getElem.1 (look_some_mem hv)
    have e1 : l[j].1 = k := by rw [e]
    have e2 : l[j].2 = v := by rw [e]
    rw [le_iff, lk_of_look hv, lk_of_look hx] at hle
    have a := h1 j hj
    have hjb : ¬ j < b := fun hlt => by
      have := h2 j hj hlt
      omega
    have hbj : ¬ b < j := fun hlt => by
      have := List.pairwise_iff_getElem.1 ok b j h hj hlt
      omega
    have : j = b := by omega
    subst this
    exact ⟨r, by rw [e1], lk_of_look hx⟩
end Go.Proofs.YtidbkkebkgeioaaGreat.Tm
namespace Go.Proofs.YtidbkkebkgeioaaGreat.En
open Go.ChangeShapes Go.WideShapes Go.ChangeAt Go.RowKit Go.Shelf
open Base (hid cell_new1 cell_old1 froz_new1 froz_old1)
attribute [local go_sem] Oper.semAt_some
set_option linter.unusedVariables false
set_option linter.unusedSimpArgs false
set_option maxRecDepth 100000
theorem rat_calls (A : Option Addr) (c B : Nat) (l : Tm.M) (k : Int) (w : World) (h : Own w B A c l) (hl : l.length ≤ 1000000) :
    Calls Tryz.prog 39 #[.slice A l.length c, .int .i64 k] w fun e w' => e = .returned (.tuple #[.int .i64 (Tm.lk l k), .bool (Tm.look l k).isSome]) ∧ w = w' := by
  have H := hid h
  clear h
  go_enter Tryz.func39, Tryz.ntmps39
  go_wp2
  go_loopw [6] (fun v6 wr => ∃ i : Nat, i ≤ l.length ∧ v6 = .int .i64 i ∧ wr = w ∧ Hid (∀ j (hj : j < l.length), j < i → l[j].1 ≠ k)) (fun v6 _ => l.length - (intOf v6).toNat)
  case atStart => exact ⟨0, Nat.zero_le _, rfl, rfl, hid (fun j _ h => by omega)⟩
  case round =>
    obtain ⟨i, hil, rfl, rfl, HJ⟩ := hrel
    by_cases hlt : i < l.length
    · obtain ⟨p, hp⟩ : ∃ p, l[i] = p := ⟨_, rfl⟩
      obtain ⟨ad, rfl, hb1, hb2, c0, c1⟩ := H.out.at i hlt
      rw [hp] at c0 c1
      by_cases hk : p.1 = k
      · have hd : (p.1 == k) = true := by simpa using hk
        have hlook := Tm.look_at l i hlt k (by rw [hp]; exact hk) HJ.out
        rw [hp] at hlook
        have HL := hid hlook
        clear hk hlook hp
        go_wp2
        go_ret2
        rw [HL.out, Tm.lk_of_look HL.out]
        exact ⟨rfl, rfl⟩
      · have hd : (p.1 == k) = false := by simpa using hk
        have HK := hid hk
        have HP := hid hp
        clear hk hp
        go_wp2
        go_roundw
        case rel =>
          refine ⟨i + 1, by omega, by go_num, by first | trivial | rfl, hid (fun j hj hji => ?_)⟩
          rcases Nat.lt_or_ge j i with h | h
          · exact HJ.out j hj h
          · obtain rfl : j = i := by omega
            rw [HP.out]
            exact HK.out
        case measure => simp [intOf]; omega
    · have hlook := Tm.look_no l k (fun j hj => HJ.out j hj (by omega))
      have HL := hid hlook
      clear hlook
      go_wp2
      go_ret2
      have : Tm.lk l k = 0 := by unfold Tm.lk; rw [HL.out]; rfl
      rw [HL.out, this]
      exact ⟨rfl, rfl⟩
def rnextV (m : Tm.M) : Value := match Tm.order m with
  | [] => .tuple #[.agg #[.int .i64 0, .int .i64 0], .bool false]
  | k :: _ => .tuple #[.agg #[.int .i64 k, .int .i64 (Tm.lk m k)], .bool true]
theorem results_cell66 {fn : Func} (h : fn.results = #[.cell 2 66, .tmp 3]) {tmps : Array Value} {b : Nat} {x y : Int} {v3 : Value} {w : World} (ht : tmps[2]? = some (.pointer (some ⟨b, 0, none⟩))) (h3 : tmps[3]? = some v3) (c0 : w.cell? ⟨b, 0, none⟩ = some (.int .i64 x)) (c1 : w.cell? ⟨b, 1, none⟩ = some (.int .i64 y)) :
    (results fn tmps).run Tryz.prog w = .ok (.tuple #[.agg #[.int .i64 x, .int .i64 y], v3]) w := by
  have a := Tryz.isAgg66
  have z := Tryz.sizeOf66
  have u := Tryz.underlying66
  simp only [results, h]
  simp [go_sem, a, z, u, c0, c1, Sem.run_bind, Array.getD_eq_getD_getElem?, ht, h3]
theorem rnextV_nil : rnextV [] = .tuple #[.agg #[.int .i64 0, .int .i64 0], .bool false] := by
  have h : Tm.order [] = [] := by simp [Tm.order]
  unfold rnextV
  rw [h]
theorem drewN_more {X wr : World} (h : ∃ q, wr = X.drewN q) (n : Nat) : ∃ q, wr.drewN n = X.drewN q := by
  obtain ⟨q, rfl⟩ := h
  exact ⟨q + n, by simp [World.drewN, Nat.add_assoc]⟩
theorem cells_two {w wr : World} {x y x0 y0 : Int} {t : TypeId} (h : ∃ q, wr = (w.alloc (.cells #[.int .i64 x0, .int .i64 y0] t)).drewN q) :
    ((wr.setCell ⟨w.heap.size, 0, none⟩ (.int .i64 x)).setCell ⟨w.heap.size, 1, none⟩ (.int .i64 y)).cell? ⟨w.heap.size, 0, none⟩ = some (.int .i64 x) ∧ ((wr.setCell ⟨w.heap.size, 0, none⟩ (.int .i64 x)).setCell ⟨w.heap.size, 1, none⟩ (.int .i64 y)).cell? ⟨w.heap.size, 1, none⟩ = some (.int .i64 y) ∧ Below w.heap.size w ((wr.setCell ⟨w.heap.size, 0, none⟩ (.int .i64 x)).setCell ⟨w.heap.size, 1, none⟩ (.int .i64 y)) := by
  obtain ⟨q, rfl⟩ := h
  have c0 : ((w.alloc (.cells #[.int .i64 x0, .int .i64 y0] t)).drewN q).cell? ⟨w.heap.size, 0, none⟩ = some (.int .i64 x0) := cell_new1 _ _ _ _ rfl 0
  have c1 : ((w.alloc (.cells #[.int .i64 x0, .int .i64 y0] t)).drewN q).cell? ⟨w.heap.size, 1, none⟩ = some (.int .i64 y0) := cell_new1 _ _ _ _ rfl 1
  refine ⟨?_, ?_, ((TmA.below_drewN ((Below.refl w.heap.size w).alloc (Nat.le_refl _) _) q).setCell (by simp) _).setCell (by simp) _⟩
  · rw [World.cell?_setCell_other _ _ _ _ (by simp)]
    exact World.cell?_setCell_same _ _ _ c0
  · refine World.cell?_setCell_same' _ _ _ ?_
    rw [World.cell?_setCell_other _ _ _ _ (by simp), c1]
    rfl
theorem cells_was {w wr : World} {x0 y0 : Int} {t : TypeId} (h : ∃ q, wr = (w.alloc (.cells #[.int .i64 x0, .int .i64 y0] t)).drewN q) :
    wr.cell? ⟨w.heap.size, 0, none⟩ = some (.int .i64 x0) ∧ wr.cell? ⟨w.heap.size, 1, none⟩ = some (.int .i64 y0) ∧ wr.frozen? ⟨w.heap.size, 0, none⟩ = false ∧ wr.frozen? ⟨w.heap.size, 1, none⟩ = false := by
  obtain ⟨q, rfl⟩ := h
  exact ⟨cell_new1 _ _ _ _ rfl 0, cell_new1 _ _ _ _ rfl 1, froz_new1 _ _ _ _ rfl 0, froz_new1 _ _ _ _ rfl 1⟩
set_option maxHeartbeats 4000000 in
theorem rnext_calls (A : Option Addr) (c B : Nat) (l : Tm.M) (w : World) (h : Own w B A c l) (hok : Tm.Ok l) (hl : l.length ≤ 1000000) :
    Calls Tryz.prog 31 #[.slice A l.length c] w fun e w' => e = .returned (rnextV l) ∧ Below w.heap.size w w' := by
  have H := hid h
  have HOK := hid hok
  clear h hok
  go_enter Tryz.func31, Tryz.ntmps31
  go_wp2
  go_loopw [4, 5] (fun v4 v5 wr => ∃ (i : Nat) (best : Int), i ≤ l.length ∧ v4 = .int .i64 best ∧ v5 = .int .i64 i ∧ Hid ((i = 0 ∧ best = -1) ∨ ∃ b : Nat, ∃ hb : b < l.length, b < i ∧ best = b ∧ (∀ j (hj : j < l.length), j < i → l[b].2 ≤ l[j].2) ∧ (∀ j (hj : j < l.length), j < b → l[b].2 < l[j].2)) ∧ Hid (∃ q, wr = (w.alloc (.cells #[.int .i64 0, .int .i64 0] 66)).drewN q)) (fun _ v5 _ => l.length - (intOf v5).toNat)
  case atStart => exact ⟨0, -1, Nat.zero_le _, rfl, rfl, hid (.inl ⟨rfl, rfl⟩), hid ⟨0, rfl⟩⟩
  case round =>
    obtain ⟨i, best, hil, rfl, rfl, HB, HQ⟩ := hrel
    have HBel : Hid (Below w.heap.size w wr) := by
      obtain ⟨q, rfl⟩ := HQ.out
      exact hid (TmA.below_drewN ((Below.refl w.heap.size w).alloc (Nat.le_refl _) _) q)
    have H1 : Hid (Own wr B A c l) := hid (Base.ownsRow_later H.out HBel.out)
    by_cases hlt : i < l.length
    · obtain ⟨p, hp⟩ : ∃ p, l[i] = p := ⟨_, rfl⟩
      obtain ⟨ad, rfl, hb1, hb2, c0, c1⟩ := H1.out.at i hlt
      rw [hp] at c0 c1
      by_cases h0 : best < 0
      · have hd : decide (best < 0) = true := by simpa using h0
        have HP := hid hp
        clear hp
        go_wp2
        go_quiet (fail)
        go_wp2
        go_roundw
        case rel =>
          refine ⟨i + 1, i, by omega, by first | trivial | rfl, by go_num, hid (.inr ⟨i, hlt, by omega, rfl, fun j hj hji => ?_, fun j hj hji => ?_⟩), hid (drewN_more HQ.out _)⟩
          · rcases HB.out with ⟨h, _⟩ | ⟨b, hb, hbi, e, _⟩
            · have : j = i := by omega
              subst this
              exact Int.le_refl _
            · omega
          · rcases HB.out with ⟨h, _⟩ | ⟨b, hb, hbi, e, _⟩ <;> omega
        case measure => simp [intOf]; omega
      · obtain ⟨b, hb, hbi, rfl, hl1, hl2⟩ : ∃ b : Nat, ∃ hb : b < l.length, b < i ∧ best = b ∧ (∀ j (hj : j < l.length), j < i → l[b].2 ≤ l[j].2) ∧ (∀ j (hj : j < l.length), j < b → l[b].2 < l[j].2) := by
          rcases HB.out with ⟨_, h⟩ | h
          · omega
          · exact h
        have hd : decide ((b : Int) < 0) = false := by simp
        obtain ⟨p2, hp2⟩ : ∃ p2, l[b] = p2 := ⟨_, rfl⟩
        obtain ⟨ad', e', _, _, c2, c3⟩ := H1.out.at b hb
        cases e'
        rw [hp2] at c2 c3 hl1 hl2
        have hbl : (b : Int) < (l.length : Int) := by omega
        have hb00 : (0 : Int) ≤ (b : Int) := by omega
        have hbt : (b : Int).toNat = b := by omega
        have HP := hid hp
        have HP2 := hid hp2
        have HL1 := hid hl1
        have HL2 := hid hl2
        clear hp hp2 hl1 hl2 HB h0
        by_cases hlt2 : p.2 < p2.2
        · have hd2 : decide (p.2 < p2.2) = true := by simpa using hlt2
          have HLT := hid hlt2
          clear hlt2
          go_wp2
          go_quiet (fail)
          go_wp2
          go_roundw
          case rel =>
            refine ⟨i + 1, i, by omega, by first | trivial | rfl, by go_num, hid (.inr ⟨i, hlt, by omega, rfl, fun j hj hji => ?_, fun j hj hji => ?_⟩), hid (drewN_more HQ.out _)⟩
            · rw [HP.out]
              have := HLT.out
              rcases Nat.lt_or_ge j i with h | h
              · have := HL1.out j hj h
                omega
              · have : j = i := by omega
                subst this
                rw [HP.out]
                exact Int.le_refl _
            · rw [HP.out]
              have := HLT.out
              have := HL1.out j hj hji
              omega
          case measure => simp [intOf]; omega
        · have hd2 : decide (p.2 < p2.2) = false := by simpa using hlt2
          have HLT := hid hlt2
          clear hlt2
          go_wp2
          go_quiet (fail)
          go_wp2
          go_roundw
          case rel =>
            refine ⟨i + 1, b, by omega, by first | trivial | rfl, by go_num, hid (.inr ⟨b, hb, by omega, rfl, fun j hj hji => ?_, fun j hj hji => ?_⟩), hid (drewN_more HQ.out _)⟩
            · rw [HP2.out]
              have := HLT.out
              rcases Nat.lt_or_ge j i with h | h
              · exact HL1.out j hj h
              · have : j = i := by omega
                subst this
                rw [HP.out]
                omega
            · rw [HP2.out]
              exact HL2.out j hj hji
          case measure => simp [intOf]; omega
    · have hlen : i = l.length := by omega
      rcases HB.out with ⟨hi0, rfl⟩ | ⟨b, hb, hbi, rfl, hl1, hl2⟩
      · have hnil : l = [] := List.eq_nil_of_length_eq_zero (by omega)
        subst hnil
        have HC := hid (cells_two (x := 0) (y := 0) HQ.out)
        obtain ⟨c0, c1, f0, f1⟩ := cells_was HQ.out
        go_wp2
        exact ⟨rfl, _, results_cell66 (x := 0) (y := 0) rfl rfl rfl HC.out.1 HC.out.2.1, by rw [rnextV_nil]; rfl, HC.out.2.2⟩
      · obtain ⟨r, ho, hlk⟩ := Tm.order_first HOK.out b hb (fun j hj => hl1 j hj (by omega)) hl2
        have hr : rnextV l = .tuple #[.agg #[.int .i64 l[b].1, .int .i64 l[b].2], .bool true] := by unfold rnextV; rw [ho, ← hlk]
        obtain ⟨p2, hp2⟩ : ∃ p2, l[b] = p2 := ⟨_, rfl⟩
        obtain ⟨ad, rfl, _, _, c2, c3⟩ := H1.out.at b hb
        rw [hp2] at c2 c3 hr
        have hd : decide ((b : Int) < 0) = false := by simp
        have HR := hid hr
        clear ho hlk hr hp2 hl1 hl2 HB
        have HC := hid (cells_two (x := p2.1) (y := p2.2) HQ.out)
        obtain ⟨c4, c5, f0, f1⟩ := cells_was HQ.out
        go_wp2
        exact ⟨rfl, _, results_cell66 (x := p2.1) (y := p2.2) rfl rfl rfl HC.out.1 HC.out.2.1, by rw [HR.out]; rfl, HC.out.2.2⟩
end Go.Proofs.YtidbkkebkgeioaaGreat.En
